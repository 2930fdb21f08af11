import Derived.Test.YtkpefpjpadahiaaGreatDoorAb7
import Derived.Laws.StructEq
namespace Go.Lad
set_option linter.unusedVariables false
set_option linter.unusedSimpArgs false
open Go.RowKit
def putAt {α:Type} (l:List α) (p:Nat) (us:List α):List α:=l.take p++us++l.drop (p+us.length)
theorem ja {α:Type} (l us:List α) (p:Nat) (h:p+us.length<=l.length):(putAt l p us).length=l.length:=by simp [putAt]; omega
theorem jR {α:Type} (l us:List α) (p:Nat) (h:p+us.length<=l.length) (j:Nat):(putAt l p us)[j]?=if p<=j/\j<p+us.length then us[j-p]? else l[j]? := by
 unfold putAt;by_cases h1:j<p
 ·rw[if_neg (by omega),List.getElem?_append_left (by simp; omega),List.getElem?_append_left (by simp; omega),List.getElem?_take,if_pos h1]
 ·by_cases h2:j<p+us.length
  ·rw[if_pos ⟨by omega,h2⟩,List.getElem?_append_left (by simp; omega),List.getElem?_append_right (by simp; omega)];congr 1;simp; omega
  ·rw[if_neg (by omega),List.getElem?_append_right (by simp; omega),List.getElem?_drop];congr 1;simp; omega
theorem uU {α:Type} (l us:List α) (p n:Nat) (h:p+us.length<=n) (hn:n<=l.length):(putAt l p us).take n=putAt (l.take n) p us:=by
 apply List.ext_getElem?;intro j;rw[jR _ _ _ (by simp; omega),List.getElem?_take,jR _ _ _ (by omega),List.getElem?_take];by_cases hj:j<n
 ·simp [hj]
 ·rw[if_neg hj,if_neg hj,if_neg (by omega)]
theorem uV {α:Type} (l us:List α) (o p:Nat) (h:o+p+us.length<=l.length):(putAt l (o+p) us).drop o=putAt (l.drop o) p us:=by
 apply List.ext_getElem?;intro j;rw[List.getElem?_drop,jR _ _ _ h,jR _ _ _ (by rw[List.length_drop]; omega),List.getElem?_drop];by_cases hj:p<=j/\j<p+us.length
 ·rw[if_pos (by omega),if_pos hj]; congr 1; omega
 ·rw[if_neg (by omega),if_neg hj]
theorem Aq {α:Type} (xs:List Value) (us:List Value) (z i off j:Nat) (hoff:off+us.length<=z) (hx:i * z+z<=xs.length):chunk z j (putAt xs (i * z+off) us)=if j=i then putAt (chunk z i xs) off us else chunk z j xs:=by
 apply List.ext_getElem?;intro m;unfold chunk;rw[List.getElem?_take];by_cases hm:m<z
 ·rw[if_pos hm,List.getElem?_drop,jR _ _ _ (by omega)];by_cases hji:j=i
  ·subst hji;rw[if_pos rfl,jR _ _ _ (by rw[List.length_take,List.length_drop]; omega),List.getElem?_take,if_pos hm,List.getElem?_drop];by_cases h1:off<=m/\m<off+us.length
   ·rw[if_pos h1,if_pos (by omega)]; congr 1; omega
   ·rw[if_neg h1,if_neg (by omega)]
  ·rw[if_neg hji,List.getElem?_take,if_pos hm,List.getElem?_drop,if_neg];rintro⟨h1,h2⟩;rcases Nat.lt_or_gt_of_ne hji with h | h
   ·have:(j+1) * z<=i * z:=Nat.mul_le_mul_right z h;rw[Nat.succ_mul] at this; omega
   ·have:(i+1) * z<=j * z:=Nat.mul_le_mul_right z h;rw[Nat.succ_mul] at this; omega
 ·rw[if_neg hm];split
  ·rw[jR _ _ _ (by rw[List.length_take,List.length_drop]; omega),if_neg (by omega),List.getElem?_take,if_neg hm]
  ·rw[List.getElem?_take,if_neg hm]
section
variable {P:Program} {w0:World} {χ0:Col} {T0:Ctx} {s:St} {a:Act} {w:World} {G:Gh} {o:Oper} {Q:Exit->Act->World->Prop}
theorem rj {t bt:TypeId} {g off:Nat} {cur:Array Value} {v:Value} (hg:iC w g cur bt) (hn:gK P t=some v.cells.size) (hle:off+v.cells.size<=cur.size) (h1:∀ u∈v.cells.toList,u.oneCell'=true) :
  (Instr.storeAt t (ptr g off) v).run P w = .ok () (w.setRow g (putAt cur.toList off v.cells.toList).toArray):=by
 obtain⟨i,hi,hs⟩:=tB hn;have:=iD P g off bt v.cells.toList 0 cur w hg (by simpa using hle) h1;simp only[Nat.add_zero] at this;simp only[Instr.storeAt,Instr.sureAddr,ptr,Sem.run_bind,Sem.run_pure,Result.andThen_ok,storeVar,sizeOf,typeInfo,run_program,hi,hs];rw[if_neg (by simp)];exact this
theorem uW {g:Nat} {cs:Array Value} {k:Nat} (hk:G.χ g=k):Chg [k] G.χ w G.χ (w.setRow g cs) :=
 ⟨rfl,rfl,rfl,by simp [World.setRow],fun _ _ _=>rfl,fun b _ hb=>setRow_other w g b cs (fun e=>hb (by rw[e,hk]; simp))⟩
theorem qF {g:Nat} {cs:Array Value} {ob:Nat} {h:df} (hk:G.χ g=ob+2):Ext G s.hp w G (Lad.upd s.hp ob (some h)) (w.setRow g cs) :=
 ⟨fun b hb _=>⟨hb,setRow_other w g b cs (fun e=>by rw[e] at hb; have:G.χ g=0:=hb; omega)⟩,fun _ _=>rfl,fun _ _=>rfl,fun i hi=>by
  by_cases hio:i=ob
  ·rw[hio,bP]; simp
  ·rw[fZ _ _ hio]; exact hi⟩
theorem uX {g ob:Nat} {cs:Array Value} {h:df} {c:Prop} (r:cI w0 χ0 T0 s a w G) (hd:∀ k,o.dst=some k->k<a.tmps.size) (hk:G.χ g=ob+2)
  (hrun:(execOp a.eval o).run P w = .ok .skip (w.setRow g cs)) (hh:HRd G (Lad.upd s.hp ob (some h)) (w.setRow g cs) ob h):o.wp P a w (bG w0 χ0 T0 a.tmps.size (s.app o.dst ⟨c,.dead,[(ob,h)]⟩)) Q:=by
 unfold Oper.wp;rw[hrun];refine⟨Act.ji _ _ _,G,r.upd hd (qF hk) (uW hk) (by simp) (fun b hb=>r.norm b (by simpa [World.setRow] using hb)) (fun i h' hi=>?_) trivial⟩;change Lad.upd s.hp ob (some h) i=some h' at hi;by_cases hid:i=ob
 ·subst hid;rw[bP] at hi;injection hi with hi
  subst hi;exact .inr hh
 ·rw[fZ _ _ hid] at hi;exact .inl ⟨hi,by simp; omega⟩
theorem eu.put {α β:Type} {R:α->β->Prop} {l u:List α} {m v:List β} (h:eu R l m) (k:eu R u v) (p:Nat):eu R (putAt l p u) (putAt m p v):=by
 unfold putAt;rw[k.1];exact ((h.take p).append k).append (h.drop _)
theorem Ko {k z i off:Nat} {e:TypeId} {χ:Col} {v:Value} {l:List (List PV)} {ps:List PV} {us:List Value} (h:Own (α:=CZ z) k χ e w v l) (hi:i<l.length) (hoff:off+us.length<=z) (hk:k≠0) (hone:∀ u∈us,u.oneCell'=true)
  (hps:RdL (In χ 0) w ps us):∃ g cur,v.ownBlock=some g/\iC w g cur e/\mu v+(i * z+off)+us.length<=cur.size /\
   Own (α:=CZ z) k χ e (w.setRow g (putAt cur.toList (mu v+(i * z+off)) us).toArray) v (l.set i (putAt (l.getD i []) off ps)):=by
 obtain⟨⟨xs,h1,h2⟩,h3⟩:=h;have hxl:xs.length=l.length * z:=h1.1;have hiz:i * z+z<=l.length * z:=by rw[← Nat.succ_mul]; exact Nat.mul_le_mul_right _ hi
 rcases h1.2 with⟨rfl,hn⟩ | ⟨g,cap,cur,o0,rfl,hb,hgg,hc,hm,hcs,hr⟩
 ·have:l.length=0:=hn;omega
 have hcap:o0+l.length * z<=cur.size:=by
  have h5:o0+cap * z<=cur.size:=hcs;have h6:l.length * z<=cap * z:=Nat.mul_le_mul_right _ hc;omega
 have hg:χ g=k:=h3 g rfl;have e0:(l.set i (putAt (l.getD i []) off ps)).length=l.length:=List.length_set;refine⟨g,cur,rfl,hgg,by (show o0+_+_<=_); omega,⟨putAt xs (i * z+off) us,⟨?_,.inr ⟨g,cap,_,o0,?_,hb,hgg.set _ (by show (putAt cur.toList (o0+(i * z+off)) us).length=cur.size; rw[ja _ _ _ (by simp; omega)]; simp),?_,hm,?_,?_⟩⟩,fun j x hj=>?_⟩,h3⟩
 ·rw[ja _ _ _ (by omega)];exact hxl.trans (congrArg (· * z) e0.symm)
 ·exact congrArg (fun n=>Value.slice (some ⟨g,o0,none⟩) n cap) e0.symm
 ·exact Nat.le_trans (Nat.le_of_eq e0) hc
 ·show o0+_<=(putAt cur.toList (o0+(i * z+off)) us).length;rw[ja _ _ _ (by simp; omega)]
  simpa using hcs
 ·have hr':(cur.toList.drop o0).take (l.length * z)=xs:=hr;have e1:(l.set i (putAt (l.getD i []) off ps)).length * z=l.length * z:=by rw[List.length_set]
  have:((putAt cur.toList (o0+(i * z+off)) us).drop o0).take (l.length * z)=putAt xs (i * z+off) us:=by
   rw[uV _ _ _ _ (by simp; omega),uU _ _ _ _ (by omega) (by simp; omega),hr']
  exact (congrArg (fun n=>List.take n ((putAt cur.toList (o0+(i * z+off)) us).drop o0)) e1).trans this
 ·have hfr:∀ b,In χ 0 b->b<w.heap.size->In χ 0 b/\(w.setRow g (putAt cur.toList (o0+(i * z+off)) us).toArray).heap[b]?=w.heap[b]? :=
   fun b hb0 _=>⟨hb0,setRow_other w g b _ (fun e=>hk (by rw[← hg,← e]; exact hb0))⟩
  refine aN.frame hfr ?_;show aN.rd (α:=CZ z) (In χ 0) w (chunk z j (putAt xs (i * z+off) us)) x;rw[Aq (α:=Value) xs us z i off j hoff (by omega)];have hj':(l.set i (putAt (l.getD i []) off ps))[j]?=some x:=hj;rw[List.getElem?_set] at hj';by_cases hji:j=i
  ·subst hji;rw[if_pos rfl];rw[if_pos rfl,if_pos hi] at hj';injection hj' with hj'
   obtain⟨q1,q2⟩:=h2 j (l.getD j []) (show (l:List (List PV))[j]?=some (l.getD j []) by simp [List.getD,List.getElem?_eq_getElem hi]);have q1':(chunk z j xs).length=z:=q1;refine⟨by rw[ja _ _ _ (by omega)]; exact q1',?_⟩;have hj'':x=putAt (l.getD j []) off ps:=hj'.symm;subst hj'';have hrow:eu (fun p v=>Rd (In χ 0) w p v) (putAt (l.getD j []) off ps) (putAt (chunk z j xs) off us):=eu.put ⟨q2.1,q2.2⟩ ⟨hps.1,hps.2⟩ off;exact⟨hrow.1,hrow.2⟩
  ·rw[if_neg hji];rw[if_neg (fun e=>hji e.symm)] at hj';exact h2 j x hj'
theorem CF {e:Eff} {t:TypeId} {x y:Operand} (r:cI w0 χ0 T0 s a w G) (hd:∀ k,o.dst=some k->k<a.tmps.size) (ho:o.op = .store t x y) (h:ma P t [s.arg x,s.arg y]=some e) (hc:e.cond) :
  o.wp P a w (bG w0 χ0 T0 a.tmps.size (s.app o.dst e)) Q:=by
 have hx:=r.ev x;have hy:=r.ev y;have hex:∀ w',(Instr.storeAt t (a.eval x) (a.eval y)).run P w = .ok () w'->(execOp a.eval o).run P w = .ok .skip w':=by
  intro w' h;simp only[execOp,ho,Sem.run_bind,h,Result.andThen_ok,Sem.run_pure]
 unfold ma at h;split at h
 ·rename_i ob off bt cs c _ heq;simp only[List.cons.injEq,and_true] at heq;obtain⟨h1,h2⟩:=St.cE heq.1;rw[h1] at hx;rw[(St.cE heq.2).1] at hy;have hob:s.hp ob=some (.box bt cs):=by simpa [Slot.ids,Cmp.ids,Cmp.leaves,aJ.ids] using h2
  have hval:a.eval x=ptr (G.bl ob) off:=LRd.val hx;obtain⟨vs,hb,hcol,hall⟩:=r.iA ob _ hob;split at h
  ·rename_i n hn;split at h
   ·rename_i hcond;obtain⟨hl,hle⟩:=hcond;simp only[Option.some.injEq] at h;subst h;have hcells:=CRd.cells hy;have hsz:(a.eval y).cells.size=n:=by have:=hcells.1; simp at this; omega
    have hone:∀ u∈(a.eval y).cells.toList,u.oneCell'=true:=fun u hu=>by
     obtain⟨j,hj⟩:=List.mem_iff_getElem?.1 hu;have hlt:j<c.leaves.length:=by rw[hcells.1]; exact (List.getElem?_eq_some_iff.1 hj).1
     exact (hcells.2 j _ u (List.getElem?_eq_getElem hlt) hj).one
    have hrun:=rj (P:=P) (t:=t) (off:=off) (v:=a.eval y) (iC.of hb) (by rw[hsz]; exact hn) (by rw[hsz]; simp; have:=hall.1; omega) hone;rw[← hval] at hrun;refine uX r hd hcol (hex _ hrun) ⟨putAt vs off (a.eval y).cells.toList,?_,hcol,?_⟩
    ·have:=setRow_heap w (G.bl ob) vs.toArray (putAt vs off (a.eval y).cells.toList).toArray bt (0,0) hb;exact this
    ·have hp:=eu.put hall hcells off;rw[show cs.take off++c.leaves++cs.drop (off+n)=putAt cs off c.leaves by unfold putAt; rw[hl]];exact hp.mono fun _ _ h=>h.ext (qF hcol)
   ·cases h
  ·cases h
 ·rename_i ob i off z el z' l c _ heq;simp only[List.cons.injEq,and_true] at heq;obtain⟨h1,h2⟩:=St.cE heq.1;rw[h1] at hx;rw[(St.cE heq.2).1] at hy;have hob:s.hp ob=some (.arr el z' l):=by simpa [Slot.ids,Cmp.ids,Cmp.leaves,aJ.ids] using h2
  have hval:a.eval x=ptr (G.bl ob) (mu (G.hv ob)+(i * z+off)):=LRd.val hx;obtain⟨hown,hbl⟩:=r.iA ob _ hob;split at h
  ·rename_i n ps hn hps;split at h
   ·rename_i hcond;obtain⟨rfl,hpl⟩:=hcond;simp only[Option.some.injEq] at h;subst h;obtain⟨hi,hle⟩:i<l.length/\off+n<=z:=hc;have hcells:=CRd.cells hy;have hpr:=hcells;rw[ri hps] at hpr;have hrd:=yJ hpr;have hsz:(a.eval y).cells.size=n:=by have:=hrd.1; simp at this; omega
    obtain⟨g,cur,g1,g2,g3,g4⟩:=Ko (off:=off) hown hi (by simp; omega) (by omega) hrd.one hrd;have hrun:=rj (P:=P) (t:=t) (off:=mu (G.hv ob)+(i * z+off)) (v:=a.eval y) g2 (by rw[hsz]; exact hn) (by simpa using g3) hrd.one;have hgb:g=G.bl ob:=hbl g g1;rw[hgb,← hval] at hrun;rw[hgb] at g4 g2;have hcol:G.χ (G.bl ob)=ob+2:=by rw[← hgb]; exact hown.col g g1
    refine uX r hd hcol (hex _ hrun) ⟨?_,hbl⟩;rw[show (l.getD i []).take off++ps++(l.getD i []).drop (off+n)=putAt (l.getD i []) off ps by unfold putAt; rw[hpl]];exact g4
   ·cases h
  ·cases h
 ·cases h
theorem FF {e:Eff} {sr ds:TypeId} {x:Operand} (r:cI w0 χ0 T0 s a w G) (hd:∀ k,o.dst=some k->k<a.tmps.size) (ho:o.op = .convert sr ds x) (h:jD P sr ds [s.ev x]=some e):o.wp P a w (bG w0 χ0 T0 a.tmps.size (s.app o.dst e)) Q:=by
 have hx:=r.ev x;unfold jD at h;split at h
 ·rename_i k n heq;simp only[List.cons.injEq,and_true] at heq;rw[heq] at hx;obtain⟨hv,hk⟩:=fU hx;split at h
  ·rename_i k1 k' hs hd';have hrun:(execOp a.eval o).run P w = .ok (.value (.int k' (k'.wrap n))) w:=by
    simp [execOp,ho,convert,run_underlying hs,run_underlying hd',hv,Conv.intToInt]
   split at h
   ·rename_i hc;simp only[val,Option.some.injEq] at h;subst h;obtain⟨rfl,hne⟩:=hc;have hin:inK .i64 n:=by
     cases k <;> first | exact absurd rfl hne | skip
     all_goals
      simp [inK,IntKind.min,IntKind.max,IntKind.signed,IntKind.bits] at hk ⊢;omega
    rw[uj hin] at hrun;exact cf r hd hrun (gZ hin)
   ·simp only[val,Option.some.injEq] at h;subst h;exact cf r hd hrun (gZ (kg _ _))
  ·cases h
 ·rename_i t heq;simp only[List.cons.injEq,and_true] at heq;rw[heq] at hx;obtain⟨hv,hk⟩:=ka hx;split at h
  ·rename_i hs hd';simp only[val,Option.some.injEq] at h;subst h;exact cf r hd (by simp [execOp,ho,convert,run_underlying hs,run_underlying hd',hv]) (yH hk)
  ·cases h
 ·cases h
theorem Rd.toV {F:Nat->Prop} {w:World} {p:PV} {v:Value} (h:Rd F w p v) (hf:p.flat=true):v=p.toV/\p.Plain:=by
 cases h with
 | int h=>exact⟨rfl,h⟩
 | bool=>exact⟨rfl,trivial⟩
 | str h=>exact⟨rfl,h⟩
 | oth h=>exact⟨rfl,h⟩
 | sl0 h hm=>cases hf
 | sl us h0 _ _ _ _ _ _ _=>cases hf
 | mp mv _ _ _ _=>cases hf
theorem qG {c:Cmp} {v:Value} {hp:Hp} {agg:Bool} {ps:List PV} (h:CRd G hp w c v) (hr:kG c=some (agg,ps)) (hf:∀ p∈ps,p.flat=true):v=re agg ps/\mW agg ps:=by
 unfold kG at hr;split at hr
 ·rename_i p;simp only[Option.some.injEq,Prod.mk.injEq] at hr;obtain⟨rfl,rfl⟩:=hr;obtain⟨h1,h2⟩:=Rd.toV (LRd.val h) (hf p (by simp));exact⟨h1,by simpa using h2,fun _=>rfl⟩
 ·rename_i xs;rw[Option.map_eq_some_iff] at hr;obtain⟨qs,hq,hr⟩:=hr;simp only[Prod.mk.injEq] at hr;obtain⟨rfl,rfl⟩:=hr;obtain⟨vs,hv,hall⟩:=h;rw[ri hq] at hall;have hget:∀ (i:Nat) u p,vs[i]?=some u->qs[i]?=some p->u=p.toV/\p.Plain:=fun i u p hu hp=>by
   have:=hall.2 i (.p p) u (by rw[List.getElem?_map,hp]; rfl) hu;exact Rd.toV (LRd.val this) (hf p (List.mem_of_getElem? hp))
  have hlen:qs.length=vs.length:=by simpa using hall.1
  refine⟨?_,fun p hp=>?_,fun h=>by cases h⟩
  ·rw[hv];show Value.agg vs.toArray = .agg (qs.map PV.toV).toArray;have:vs=qs.map PV.toV:=by
    apply List.ext_getElem?;intro i;rw[List.getElem?_map];rcases Nat.lt_or_ge i qs.length with hi | hi
    ·have h1:vs[i]?=some vs[i]:=List.getElem?_eq_getElem (by omega);have h2:qs[i]?=some qs[i]:=List.getElem?_eq_getElem hi;rw[h1,h2,(hget i _ _ h1 h2).1]; rfl
    ·rw[List.getElem?_eq_none (by omega),List.getElem?_eq_none hi]; rfl
   rw[this]
  ·obtain⟨i,hi⟩:=List.mem_iff_getElem?.1 hp;have hlt:i<vs.length:=by rw[← hlen]; exact (List.getElem?_eq_some_iff.1 hi).1
   exact (hget i _ p (List.getElem?_eq_getElem hlt) hi).2
 ·cases hr
theorem sE {agg:Bool} {ps:List PV} {hp:Hp} (h:mW agg ps):CRd G hp w (sB agg ps) (re agg ps):=by
 cases agg with
 | true =>
  refine⟨ps.map PV.toV,rfl,by simp,fun i a b ha hb=>?_⟩;rw[List.getElem?_map,Option.map_eq_some_iff] at ha hb;obtain⟨p,hp,rfl⟩:=ha;obtain⟨p',hp',rfl⟩:=hb;rw[hp] at hp';injection hp' with hp'
  subst hp';have hpl:=(h.1 p (List.mem_of_getElem? hp)).rd (F:=In G.χ 0) (w:=w);exact⟨hpl.one,by simp [aJ.ids],hpl⟩
 | false =>
  have hl:=h.2 rfl;cases ps with
  | nil=>simp at hl
  | cons p r =>
   have hpl:=(h.1 p List.mem_cons_self).rd (F:=In G.χ 0) (w:=w);exact⟨hpl.one,by simp [aJ.ids],hpl⟩
theorem uY {c:Cmp} {v:Value} {hp:Hp} {agg:Bool} {ps:List PV} (h:CRd G hp w c v) (hr:kG c=some (agg,ps)):uL (In G.χ 0) w agg ps v:=by
 unfold kG at hr;split at hr
 ·rename_i p;simp only[Option.some.injEq,Prod.mk.injEq] at hr;obtain⟨rfl,rfl⟩:=hr;exact⟨p,rfl,LRd.val h⟩
 ·rename_i xs;rw[Option.map_eq_some_iff] at hr;obtain⟨qs,hq,hr⟩:=hr;simp only[Prod.mk.injEq] at hr;obtain⟨rfl,rfl⟩:=hr;obtain⟨vs,hv,hall⟩:=h;rw[ri hq] at hall;refine⟨vs,hv,by simpa using hall.1,fun i p u hp hu=>?_⟩;have:=hall.2 i (.p p) u (by rw[List.getElem?_map,hp]; rfl) hu;exact LRd.val this
 ·cases hr
theorem D8 {agg:Bool} {ps:List PV} {v:Value} {hp:Hp} (h:uL (In G.χ 0) w agg ps v):CRd G hp w (sB agg ps) v:=by
 cases agg with
 | true =>
  obtain⟨vs,h1,h2⟩:=h;refine⟨vs,h1,by simpa using h2.1,fun i a b ha hb=>?_⟩;rw[List.getElem?_map,Option.map_eq_some_iff] at ha;obtain⟨p,hp,rfl⟩:=ha;have h3:=h2.2 i p b hp hb;exact⟨h3.one,by simp [aJ.ids],h3⟩
 | false =>
  obtain⟨p,rfl,h2⟩:=h;exact⟨h2.one,by simp [aJ.ids],h2⟩
theorem xy {x:aJ} {v:Value} {hp:Hp} (h:LRd G hp w x v):LRd G hp w x.mX v:=by
 cases x with
 | nil =>
  have hv:v = .slice none 0 0:=h.val;subst hv;exact⟨rfl,by simp [aJ.mX,aJ.ids],.sl0 (fun _=>rfl) (by omega)⟩
 | _=>exact h
theorem Hu {c:Cmp} {v:Value} {hp:Hp} (h:CRd G hp w c v):CRd G hp w c.mX v:=by
 cases c with
 | v x=>exact xy h
 | g xs =>
  obtain⟨vs,h1,h2⟩:=h;refine⟨vs,h1,by simpa using h2.1,fun i a b ha hb=>?_⟩;rw[List.getElem?_map,Option.map_eq_some_iff] at ha;obtain⟨y,hy,rfl⟩:=ha;exact xy (h2.2 i y b hy hb)
theorem uZ {t:TypeId} {agg:Bool} {z:List PV} (h:oZ P t=some (agg,z)):(∀ w,(zeroValue t).run P w = .ok (re agg z) w)/\mW agg z:=by
 unfold oZ at h;split at h
 ·rename_i i hi;split at h
  ·rename_i v hz;split at h
   ·rename_i c hs;split at h
    ·rename_i agg' ps hcr;split at h
     ·rename_i hfl;simp only[Option.some.injEq,Prod.mk.injEq] at h;obtain⟨rfl,rfl⟩:=h;have hrd:=nT (G:=⟨fun _=>0,fun _=>0,fun _=>.nilFunc⟩) (hp:=fun _=>none) (w:=default) v;rw[hs] at hrd;obtain⟨h1,h2⟩:=qG hrd hcr (by simpa using hfl);exact⟨fun w=>by simp [zeroValue,typeInfo,hi,hz,h1],h2⟩
     ·cases h
    ·cases h
   ·cases h
  ·cases h
 ·cases h
theorem xz {t:TypeId} {agg:Bool} {z:List PV} (h:nV P t=some (agg,z)):∃ v,(∀ w,(zeroValue t).run P w = .ok v w)/\∀ (G:Gh) w,uL (In G.χ 0) w agg z v:=by
 unfold nV at h;split at h
 ·rename_i i hi;split at h
  ·rename_i v hz;split at h
   ·rename_i c hs;refine⟨v,fun w=>by simp [zeroValue,typeInfo,hi,hz],fun G w=>?_⟩;have hrd:=nT G (fun _=>none) w v;rw[hs] at hrd;exact uY (Hu hrd) h
   ·cases h
  ·cases h
 ·cases h
theorem nq.flat {F F':Nat->Prop} {w w':World} {agg:Bool} {mv:List (ByteArray×Value)} {m:List (ByteArray×List PV)} (h:nq F w agg mv m) (hf:∀ y∈m,∀ p∈y.2,p.flat=true):nq F' w' agg mv m:=by
 refine⟨h.1,fun i x y hx hy=>?_⟩;have h1:=h.2 i x y hx hy;have h2:=hf y (List.mem_of_getElem? hy);cases agg with
 | true =>
  obtain⟨vs,h3,h4⟩:=h1;refine⟨vs,h3,h4.1,fun j p v hp hv=>?_⟩;obtain⟨rfl,h5⟩:=Rd.toV (h4.2 j p v hp hv) (h2 p (List.mem_of_getElem? hp));exact h5.rd
 | false =>
  obtain⟨p,h3,h4⟩:=h1;obtain⟨h6,h5⟩:=Rd.toV h4 (h2 p (by rw[h3]; simp));rw[h6];exact⟨p,h3,h5.rd⟩
theorem nq.look {F:Nat->Prop} {agg:Bool} {mv:List (ByteArray×Value)} {m:List (ByteArray×List PV)} {z:List PV} {vz:Value} (h:nq F w agg mv m) (hz:uL F w agg z vz) (x:ByteArray) :
  uL F w agg ((cM m x).getD z) (((cM mv x).map id).getD vz)/\(cM mv x).isSome=(cM m x).isSome:=by
 unfold cM;rw[h.1];cases hp:pos (m.map (·.1)) x with
 | none=>exact⟨hz,rfl⟩
 | some i =>
  have hl:=mw hp;have hl2:i<mv.length:=by have:=congrArg List.length h.1; simp at this hl; omega
  have hl3:i<m.length:=by simpa using hl
  simp only[Option.bind_some,List.getElem?_eq_getElem hl2,List.getElem?_eq_getElem hl3,Option.map_some,Option.getD_some,Option.isSome_some,and_true];exact h.2 i _ _ (List.getElem?_eq_getElem hl2) (List.getElem?_eq_getElem hl3)
theorem nq.put {F:Nat->Prop} {agg:Bool} {mv:List (ByteArray×Value)} {m:List (ByteArray×List PV)} {ps:List PV} {v:Value} (h:nq F w agg mv m) (hv:uL F w agg ps v) (x:ByteArray):nq F w agg (gv mv x v) (gv m x ps):=by
 have hlen:mv.length=m.length:=by have:=congrArg List.length h.1; simpa using this
 refine⟨by rw[sw,sw,h.1],fun i a b ha hb=>?_⟩;unfold gv at ha hb;rw[h.1] at ha;cases hp:pos (m.map (·.1)) x with
 | none =>
  rw[hp] at ha hb;dsimp only at ha hb;by_cases hi:i<m.length
  ·rw[List.getElem?_append_left (by omega)] at ha;rw[List.getElem?_append_left hi] at hb;exact h.2 i a b ha hb
  ·rw[List.getElem?_append_right (by omega)] at ha;rw[List.getElem?_append_right (by omega)] at hb;rw[hlen] at ha;cases hk:i-m.length with
   | zero=>rw[hk] at ha hb; simp at ha hb; subst ha hb; exact hv
   | succ k=>rw[hk] at ha; simp at ha
 | some j =>
  rw[hp] at ha hb;dsimp only at ha hb;rw[List.getElem?_set] at ha hb;by_cases hj:j=i
  ·rw[if_pos hj] at ha hb;split at ha
   ·split at hb
    ·simp at ha hb; subst ha hb; exact hv
    ·cases hb
   ·cases ha
  ·rw[if_neg hj] at ha hb;exact h.2 i a b ha hb
theorem xA {ok agg:Bool} {mv:List (ByteArray×Value)} {m:List (ByteArray×List PV)} {x:ByteArray} {z:List PV} {vz:Value} {hp:Hp} (h:nq (In G.χ 0) w agg mv m) (hz:uL (In G.χ 0) w agg z vz) :
  SRd G hp w (kH ok agg (cM m x) z) (if ok then .tuple #[((cM mv x).map id).getD vz,.bool (cM mv x).isSome] else ((cM mv x).map id).getD vz):=by
 obtain⟨h1,h2⟩:=h.look hz x;have e:(cM mv x).map id=cM mv x:=by cases cM mv x <;> rfl
 rw[h2,e];rw[e] at h1;cases ok with
 | true =>
  refine⟨[_,_],rfl,rfl,fun i a b ha hb=>?_⟩;match i,ha,hb with
  | 0,ha,hb=>simp at ha hb; subst ha hb; exact D8 h1
  | 1,ha,hb=>simp at ha hb; subst ha hb; exact⟨rfl,by simp [aJ.ids],.bool⟩
 | false=>exact D8 h1
theorem D9 {α:Type} [DecidableEq α] {agg:Bool} {m:List (α×List PV)} {x:α} {ps:List PV} (h:∀ y∈m,mW agg y.2) (hp:mW agg ps):∀ y∈gv m x ps,mW agg y.2:=by
 intro y hy;unfold gv at hy;split at hy
 ·rcases List.mem_or_eq_of_mem_set hy with hy | rfl
  ·exact h y hy
  ·exact hp
 ·rcases List.mem_append.1 hy with hy | hy
  ·exact h y hy
  ·rw[List.mem_singleton] at hy; subst hy; exact hp
theorem Hv {α:Type} [DecidableEq α] {agg:Bool} {m:List (α×List PV)} {x:α} {z:List PV} (h:∀ y∈m,mW agg y.2) (hz:mW agg z):mW agg ((cM m x).getD z)/\((cM m x).map (re agg)).getD (re agg z)=re agg ((cM m x).getD z):=by
 cases hl:cM m x with
 | none=>exact⟨hz,rfl⟩
 | some ps =>
  refine⟨?_,rfl⟩;unfold cM at hl;rw[Option.bind_eq_some_iff] at hl;obtain⟨i,_,hl⟩:=hl;rw[Option.map_eq_some_iff] at hl;obtain⟨y,hy,rfl⟩:=hl;exact h y (List.mem_of_getElem? hy)
theorem Ar {α:Type} [DecidableEq α] {ok agg:Bool} {m:List (α×List PV)} {x:α} {z:List PV} {hp:Hp} (h:∀ y∈m,mW agg y.2) (hz:mW agg z) :
  SRd G hp w (kH ok agg (cM m x) z) (if ok then .tuple #[((cM m x).map (re agg)).getD (re agg z),.bool (cM m x).isSome] else ((cM m x).map (re agg)).getD (re agg z)):=by
 obtain⟨h1,h2⟩:=Hv (x:=x) h hz;rw[h2];cases ok with
 | true =>
  refine⟨[_,_],rfl,rfl,fun i a b ha hb=>?_⟩;match i,ha,hb with
  | 0,ha,hb=>simp at ha hb; subst ha hb; exact sE h1
  | 1,ha,hb=>simp at ha hb; subst ha hb; exact⟨rfl,by simp [aJ.ids],.bool⟩
 | false=>exact sE h1
theorem u0 {kt:TypeId} {k:IntKind} (h:Ai P kt=some k):KeyLaw P kt (sy k):=by
 unfold Ai at h;split at h
 ·rename_i fs hu;split at h
  ·rename_i f g hfs;split at h
   ·rename_i k0 hf hg;split at h
    ·rename_i hc;simp only[Option.some.injEq] at h;subst h;simp only[Bool.and_eq_true,decide_eq_true_eq,bne_iff_ne,ne_eq,Bool.not_eq_true'] at hc;obtain⟨⟨⟨⟨ho1,ho2⟩,hn1⟩,hn2⟩,hst⟩:=hc;have hfo:P.fieldsOf kt=fs:=by simp [Program.fieldsOf,hu]
     have af:fW P f.type=false:=by unfold fW; rw[hf]
     have ag:fW P g.type=false:=by unfold fW; rw[hg]
     refine KeyLaw.struct hu (fun b x w=>?_) (fun x y w=>?_) (fun x=>?_)
     ·have key:∀ n,(Instr.checkKey b (n+1+1) kt (sy k0 x)).run P w = .ok () w:=by
       intro n;have ia:∀ w,(isAgg f.type).run P w = .ok false w:=fun w=>by rw[gG (t:=f.type) (P:=P) (by rw[hf]; simp),af]
       have ib:∀ w,(isAgg g.type).run P w = .ok false w:=fun w=>by rw[gG (t:=g.type) (P:=P) (by rw[hg]; simp),ag]
       rw[sy,Instr.checkKey];simp only[Sem.run_bind,run_underlying hu,Result.andThen_ok];rw[← Array.forIn_toList,hfs];simp [go_sem,Instr.checkKey,hn1,hn2,ho1,ho2,ia,ib,run_underlying hf,run_underlying hg]
      exact key 9998
     ·have e:(Op.equal kt (sy k0 x) (sy k0 y))=Op.equalIn (9999+1) kt (sy k0 x) (sy k0 y):=rfl;have p1:∀ x:Int×ByteArray,(part f.type #[.int k0 x.1,.string x.2] f.offset).run P w = .ok (.int k0 x.1) w:=fun x=>by rw[ho1]; simp [part,gG (t:=f.type) (P:=P) (by rw[hf]; simp),af]
      have p2:∀ x:Int×ByteArray,(part g.type #[.int k0 x.1,.string x.2] g.offset).run P w = .ok (.string x.2) w:=fun x=>by rw[ho2]; simp [part,gG (t:=g.type) (P:=P) (by rw[hg]; simp),ag]
      rw[e,sy,sy,run_equalIn_struct w 9999 kt _ _ (by rw[hfo]; exact hu) hst,hfo,hfs];unfold Op.eqFields;rw[if_pos hn1];simp only[Sem.run_bind,p1,Result.andThen_ok,run_equalIn_int w 9998 f.type k0 _ x.1 y.1 hf];unfold Op.eqFields;rw[if_pos hn2];have e1:decide (x=y)=(decide (x.1=y.1) && decide (x.2=y.2)):=by
       obtain⟨a,b⟩:=x;obtain⟨c,d⟩:=y;rw[Bool.eq_iff_iff];simp
      have e2:(x.2.toList == y.2.toList)=decide (x.2=y.2):=by
       rw[Bool.eq_iff_iff,beq_iff_eq,decide_eq_true_eq,ByteArray.toList_eq,ByteArray.toList_eq];exact⟨fun h=>ByteArray.ext (Array.ext' h),fun h=>by rw[h]⟩
      rw[e1];by_cases h1:x.1=y.1
      ·rw[if_neg (by simp [h1])];simp only[Sem.run_bind,p2,Result.andThen_ok,run_equalIn_string w 9998 g.type x.2 y.2 hg,e2,decide_eq_true h1,Bool.true_and];unfold Op.eqFields;by_cases h2:x.2=y.2
       ·rw[decide_eq_true h2]; rfl
       ·rw[decide_eq_false h2]; rfl
      ·rw[if_pos (by simp [h1]),decide_eq_false h1]; rfl
     ·simp [sy,Instr.sameBits,bytes_beq]
    ·cases h
   ·cases h
  ·cases h
 ·cases h
theorem OC {k:IntKind} {n:Int} {t:ByteArray} {hp:Hp} {v:Value} (h:SRd G hp w (.c (.g [.p (.int k n),.p (.str t)])) v):v=sy k (n,t):=by
 obtain⟨vs,rfl,hl,ha⟩:=h;match vs,hl with
 | [u1,u2],_ =>
  have h1:=(ha 0 _ _ rfl rfl).val;have h2:=(ha 1 _ _ rfl rfl).val;cases h1;cases h2;rfl
theorem As {e:Eff} {t:TypeId} {ok:Bool} {x y:Operand} (r:cI w0 χ0 T0 s a w G) (hd:∀ k,o.dst=some k->k<a.tmps.size) (ho:o.op = .lookup t x y ok) (h:gN P t ok [s.arg x,s.arg y]=some e) :
  o.wp P a w (bG w0 χ0 T0 a.tmps.size (s.app o.dst e)) Q:=by
 have hx:=r.ev x;have hy:=r.ev y;unfold gN at h;split at h
 ·rename_i ob k agg m k' n _ heq;simp only[List.cons.injEq,and_true] at heq;obtain⟨h1,h2⟩:=St.cE heq.1;rw[h1] at hx;rw[(St.cE heq.2).1] at hy;have hob:s.hp ob=some (.fO k agg m):=by simpa [Slot.ids,Cmp.ids,Cmp.leaves,aJ.ids] using h2
  have hval:a.eval x = .map (some (G.bl ob)):=LRd.val hx;obtain⟨es,clock,hm,_,hrow⟩:=r.iA ob _ hob;split at h
  ·rename_i kt et hu;split at h
   ·rename_i k2 agg2 z hk hz;split at h
    ·rename_i hc;obtain⟨rfl,rfl,rfl⟩:=hc;simp only[val,Option.some.injEq] at h;subst h;obtain⟨hz1,hz2⟩:=uZ hz;refine cf r hd ?_ (Ar hrow hz2);cases ok with
     | true=>simp [execOp,ho,hval,(fU hy).1,hm.look_ok (KeyLaw.int hk) hu hz1 n,← show Ad k' n = .int k' n from rfl]
     | false=>simp [execOp,ho,hval,(fU hy).1,hm.uJ (KeyLaw.int hk) hu hz1 n,← show Ad k' n = .int k' n from rfl]
    ·cases h
   ·cases h
  ·cases h
 ·rename_i ob agg m t' _ heq;simp only[List.cons.injEq,and_true] at heq;obtain⟨h1,h2⟩:=St.cE heq.1;rw[h1] at hx;rw[(St.cE heq.2).1] at hy;have hob:s.hp ob=some (.fa agg m):=by simpa [Slot.ids,Cmp.ids,Cmp.leaves,aJ.ids] using h2
  have hval:a.eval x = .map (some (G.bl ob)):=LRd.val hx;obtain⟨es,clock,mv,hm,_,hrow⟩:=r.iA ob _ hob;split at h
  ·rename_i kt et hu;split at h
   ·rename_i agg2 z hk hz;split at h
    ·rename_i hc;subst hc;simp only[val,Option.some.injEq] at h;subst h;obtain⟨vz,hz1,hz2⟩:=xz hz;refine cf r hd ?_ (xA hrow (hz2 G w));cases ok with
     | true=>simp [execOp,ho,hval,(ka hy).1,hm.look_ok (KeyLaw.str hk) hu hz1 t',← show Cv t' = .string t' from rfl]
     | false=>simp [execOp,ho,hval,(ka hy).1,hm.uJ (KeyLaw.str hk) hu hz1 t',← show Cv t' = .string t' from rfl]
    ·cases h
   ·cases h
  ·cases h
 ·rename_i _ t' _ heq;simp only[List.cons.injEq,and_true] at heq;rw[(St.cE heq.1).1] at hx;rw[(St.cE heq.2).1] at hy;have hval:a.eval x = .map none:=by
   have h1:Rd (In G.χ 0) w (.oth (.map none)) (a.eval x):=LRd.val hx;generalize a.eval x=v at h1 ⊢;cases h1; rfl
  split at h
  ·rename_i kt et hu;split at h
   ·rename_i agg z hk hz;simp only[val,Option.some.injEq] at h;subst h;obtain⟨vz,hz1,hz2⟩:=xz hz;have hf:=(KeyLaw.str hk).find t' [] [] rfl w;have hc:=(KeyLaw.str hk).chk true t' w;refine cf r hd ?_ (xA (mv:=[]) (m:=[]) (x:=t') ⟨rfl,fun i x y hx=>by simp at hx⟩ (hz2 G w));cases ok with
    | true=>simp [execOp,ho,hval,(ka hy).1,Instr.lookup,run_underlying hu,hc,hf,hz1,pos,cM]
    | false=>simp [execOp,ho,hval,(ka hy).1,Instr.lookup,run_underlying hu,hc,hf,hz1,pos,cM]
   ·cases h
  ·cases h
 ·rename_i ob k agg m k' n t' _ heq;simp only[List.cons.injEq,and_true] at heq;obtain⟨h1,h2⟩:=St.cE heq.1;rw[h1] at hx;rw[(St.cE heq.2).1] at hy;have hob:s.hp ob=some (.fb k agg m):=by simpa [Slot.ids,Cmp.ids,Cmp.leaves,aJ.ids] using h2
  have hval:a.eval x = .map (some (G.bl ob)):=LRd.val hx;have hkey:=OC hy;obtain⟨es,clock,hm,_,hrow⟩:=r.iA ob _ hob;split at h
  ·rename_i kt et hu;split at h
   ·rename_i k2 agg2 z hk hz;split at h
    ·rename_i hc;obtain⟨rfl,rfl,rfl⟩:=hc;simp only[val,Option.some.injEq] at h;subst h;obtain⟨hz1,hz2⟩:=uZ hz;refine cf r hd ?_ (Ar hrow hz2);cases ok with
     | true=>simp [execOp,ho,hval,hkey,hm.look_ok (u0 hk) hu hz1 (n,t')]
     | false=>simp [execOp,ho,hval,hkey,hm.uJ (u0 hk) hu hz1 (n,t')]
    ·cases h
   ·cases h
  ·cases h
 ·cases h
theorem u9 {ob:Nat} {es:Array MapEntry} {clock:Nat} {h:df} {c:Prop} (r:cI w0 χ0 T0 s a w G) (hd:∀ k,o.dst=some k->k<a.tmps.size) (hk:G.χ (G.bl ob)=ob+2)
  (hrun:(execOp a.eval o).run P w = .ok .skip (gq w (G.bl ob) es clock)) (hh:HRd G (Lad.upd s.hp ob (some h)) (gq w (G.bl ob) es clock) ob h):o.wp P a w (bG w0 χ0 T0 a.tmps.size (s.app o.dst ⟨c,.dead,[(ob,h)]⟩)) Q:=by
 have hext:Ext G s.hp w G (Lad.upd s.hp ob (some h)) (gq w (G.bl ob) es clock) :=
  ⟨fun b hb _=>⟨hb,lX w (G.bl ob) es clock b (fun e=>by rw[e] at hb; have:G.χ (G.bl ob)=0:=hb; omega)⟩,fun _ _=>rfl,fun _ _=>rfl,fun i hi=>by
   by_cases hio:i=ob
   ·rw[hio,bP]; simp
   ·rw[fZ _ _ hio]; exact hi⟩
 have hchg:Chg [ob+2] G.χ w G.χ (gq w (G.bl ob) es clock) :=
  ⟨rfl,rfl,rfl,by simp,fun _ _ _=>rfl,fun b _ hb=>lX w (G.bl ob) es clock b (fun e=>hb (by rw[e,hk]; simp))⟩
 unfold Oper.wp;rw[hrun];refine⟨Act.ji _ _ _,G,r.upd hd hext hchg (by simp) (fun b hb=>r.norm b (by simpa using hb)) (fun i h' hi=>?_) trivial⟩;change Lad.upd s.hp ob (some h) i=some h' at hi;by_cases hid:i=ob
 ·subst hid;rw[bP] at hi;injection hi with hi
  subst hi;exact .inr hh
 ·rw[fZ _ _ hid] at hi;exact .inl ⟨hi,by simp; omega⟩
theorem va {e:Eff} {t:TypeId} {x y z:Operand} (r:cI w0 χ0 T0 s a w G) (hd:∀ k,o.dst=some k->k<a.tmps.size) (ho:o.op = .mapUpdate t x y z) (h:fQ P t [s.arg x,s.arg y,s.arg z]=some e) (hc:e.cond) :
  o.wp P a w (bG w0 χ0 T0 a.tmps.size (s.app o.dst e)) Q:=by
 have hx:=r.ev x;have hy:=r.ev y;have hz:=r.ev z;unfold fQ at h;split at h
 ·rename_i ob k agg m k' n _ c _ heq;simp only[List.cons.injEq,and_true] at heq;obtain⟨h1,h2⟩:=St.cE heq.1;rw[h1] at hx;rw[(St.cE heq.2.1).1] at hy;rw[(St.cE heq.2.2).1] at hz;have hob:s.hp ob=some (.fO k agg m):=by simpa [Slot.ids,Cmp.ids,Cmp.leaves,aJ.ids] using h2
  have hval:a.eval x = .map (some (G.bl ob)):=LRd.val hx;obtain⟨es,clock,hm,hcol,hrow⟩:=r.iA ob _ hob;split at h
  ·rename_i kt et hu;split at h
   ·rename_i k2 agg2 ps hk hps;split at h
    ·rename_i hcc;obtain⟨rfl,rfl,rfl⟩:=hcc;simp only[Option.some.injEq] at h;subst h;obtain⟨hv,hok⟩:=qG hz hps hc;obtain⟨g1,g2⟩:=hm.update (KeyLaw.int hk) hu n ps;refine u9 r hd hcol ?_ ⟨_,_,g2,hcol,D9 hrow hok⟩;simp only[execOp,ho,hval,(fU hy).1,hv,Sem.run_bind,← show Ad k' n = .int k' n from rfl,g1,Result.andThen_ok,Sem.run_pure]
    ·cases h
   ·cases h
  ·cases h
 ·rename_i ob agg m t' _ c _ heq;simp only[List.cons.injEq,and_true] at heq;obtain⟨h1,h2⟩:=St.cE heq.1;rw[h1] at hx;rw[(St.cE heq.2.1).1] at hy;rw[(St.cE heq.2.2).1] at hz;have hob:s.hp ob=some (.fa agg m):=by simpa [Slot.ids,Cmp.ids,Cmp.leaves,aJ.ids] using h2
  have hval:a.eval x = .map (some (G.bl ob)):=LRd.val hx;obtain⟨es,clock,mv,hm,hcol,hrow⟩:=r.iA ob _ hob;split at h
  ·rename_i kt et hu;split at h
   ·rename_i agg2 ps hk hps;split at h
    ·rename_i hcc;subst hcc;simp only[Option.some.injEq] at h;subst h;have hok:=uY hz hps;obtain⟨g1,g2⟩:=hm.update (KeyLaw.str hk) hu t' (a.eval z);refine u9 r hd hcol ?_ ⟨_,_,_,g2,hcol,(hrow.put hok t').frame fun b hb _=>⟨hb,lX w (G.bl ob) _ _ b (fun e=>by rw[e] at hb; have:G.χ (G.bl ob)=0:=hb; omega)⟩⟩;have g1:(Instr.mapUpdate t (.map (some (G.bl ob))) (Cv t') (a.eval z)).run P w = .ok () (gq w (G.bl ob) (lV es clock (pos (mv.map (·.1)) t') (Cv t') (a.eval z)).1 (lV es clock (pos (mv.map (·.1)) t') (Cv t') (a.eval z)).2):=g1;simp only[execOp,ho,hval,(ka hy).1,Sem.run_bind,← show Cv t' = .string t' from rfl,g1,Result.andThen_ok,Sem.run_pure];rfl
    ·cases h
   ·cases h
  ·cases h
 ·rename_i ob k agg m k' n t' _ c _ heq;simp only[List.cons.injEq,and_true] at heq;obtain⟨h1,h2⟩:=St.cE heq.1;rw[h1] at hx;rw[(St.cE heq.2.1).1] at hy;rw[(St.cE heq.2.2).1] at hz;have hob:s.hp ob=some (.fb k agg m):=by simpa [Slot.ids,Cmp.ids,Cmp.leaves,aJ.ids] using h2
  have hval:a.eval x = .map (some (G.bl ob)):=LRd.val hx;have hkey:=OC hy;obtain⟨es,clock,hm,hcol,hrow⟩:=r.iA ob _ hob;split at h
  ·rename_i kt et hu;split at h
   ·rename_i k2 agg2 ps hk hps;split at h
    ·rename_i hcc;obtain⟨rfl,rfl,rfl⟩:=hcc;simp only[Option.some.injEq] at h;subst h;obtain⟨hv,hok⟩:=qG hz hps hc;obtain⟨g1,g2⟩:=hm.update (u0 hk) hu (n,t') ps;refine u9 r hd hcol ?_ ⟨_,_,g2,hcol,D9 hrow hok⟩;simp only[execOp,ho,hval,hkey,hv,Sem.run_bind,g1,Result.andThen_ok,Sem.run_pure]
    ·cases h
   ·cases h
  ·cases h
 ·cases h
theorem yK {e:Eff} {t:TypeId} {rs:Option Operand} (r:cI w0 χ0 T0 s a w G) (hd:∀ k,o.dst=some k->k<a.tmps.size) (ho:o.op = .makeMap t rs) (h:ju P t o.dst (aY s.hp o.dst) (rs.toList.map s.arg)=some e) :
  o.wp P a w (bG w0 χ0 T0 a.tmps.size (s.app o.dst e)) Q:=by
 have hrs:rs=none:=by
  cases rs with
  | none=>rfl
  | some x=>simp [ju] at h
 subst hrs;have hrun:(execOp a.eval o).run P w = .ok (.value (.map (some w.heap.size))) (w.alloc (.map #[] 0)):=by
  simp [execOp,ho,Instr.makeMap]
 cases hdst:o.dst with
 | none=>unfold ju at h; split at h <;> (try split at h) <;> simp_all
 | some d =>
  rw[hdst] at h;rw[← hdst];have fin:∀ hh,(s.hp d=none/\d<1000000)->HRd (G.add d w.heap.size .nilFunc) (Lad.upd s.hp d (some hh)) (w.alloc (.map #[] 0)) d hh->o.wp P a w (bG w0 χ0 T0 a.tmps.size (s.app o.dst ⟨True,.x (.mp d),[(d,hh)]⟩)) Q:=by
   intro hh hf hhr;refine o6 r hd hf .nilFunc hrun ⟨rfl,fun j hj=>?_,?_⟩ hhr
   ·simp [aJ.ids] at hj; subst hj; rw[bP]; simp
   ·show Value.map (some w.heap.size) = .map (some (Lad.upd G.bl d w.heap.size d));rw[bP]
  have hbl:Lad.upd G.bl d w.heap.size d=w.heap.size:=bP _ _ _;have hcol:(if w.heap.size=w.heap.size then d+2 else G.χ w.heap.size)=d+2:=if_pos rfl;unfold ju at h;split at h
  ·split at h
   ·rename_i kt et d' hu hdd;injection hdd with hdd
    subst hdd;split at h
    ·rename_i hk;split at h
     ·rename_i agg _ hz;split at h
      ·rename_i hf;simp only[Option.some.injEq] at h;subst h;refine fin _ (by simpa [aY] using hf) ⟨#[],0,[],?_,?_,rfl,fun i x y hx=>by simp at hx⟩
       ·show fP _ _ _ (Lad.upd G.bl d w.heap.size d) _ _ _;rw[hbl]; exact fP.made _ _ w
       ·show (if Lad.upd G.bl d w.heap.size d=w.heap.size then d+2 else _)=d+2;rw[hbl,if_pos rfl]
      ·cases h
     ·cases h
    ·split at h
     ·rename_i k agg _ hk hz;split at h
      ·rename_i hf;simp only[Option.some.injEq] at h;subst h;refine fin _ (by simpa [aY] using hf) ⟨#[],0,?_,?_,by simp⟩
       ·show fP _ _ _ (Lad.upd G.bl d w.heap.size d) _ _ _;rw[hbl]; exact fP.made _ _ w
       ·show (if Lad.upd G.bl d w.heap.size d=w.heap.size then d+2 else _)=d+2;rw[hbl,if_pos rfl]
      ·cases h
     ·rename_i fs agg _ hk hz;split at h
      ·rename_i kq hq;split at h
       ·rename_i hf;simp only[Option.some.injEq] at h;subst h;refine fin _ (by simpa [aY] using hf) ⟨#[],0,?_,?_,by simp⟩
        ·show fP _ _ _ (Lad.upd G.bl d w.heap.size d) _ _ _;rw[hbl]; exact fP.made _ _ w
        ·show (if Lad.upd G.bl d w.heap.size d=w.heap.size then d+2 else _)=d+2;rw[hbl,if_pos rfl]
       ·cases h
      ·cases h
     ·cases h
   ·cases h
  ·cases h
theorem la {k:IntKind} {i:Int} {n:Nat} {code:BoundsCode} (h0:0<=i) (hn:i<=n):(Instr.sliceBound (.int k i) n code).run P w = .ok i.toNat w:=by
 simp [Instr.sliceBound,asIntOf,h0,hn]
theorem rk {isS:Bool} {n cap:Nat} {lo hi:Option Operand} {i j:Int} (r:cI w0 χ0 T0 s a w G) (h:qm lo.isSome hi.isSome n ((lo.toList++hi.toList).map s.arg)=some (i,j)) (h1:0<=i) (h2:i<=j) (h3:j<=n) (hc:n<=cap) :
  (Instr.sliceBounds isS n cap (lo.map a.eval) (hi.map a.eval) none).run P w = .ok (i.toNat,j.toNat,cap) w:=by
 have ev:∀ (x:Operand) (k:IntKind) (m:Int) (hs:List (Option df)),s.arg x=(.c (.v (.p (.int k m))),hs)->a.eval x = .int k m:=fun x k m hs hx=>by
  have:=r.ev x;rw[(St.cE hx).1] at this;exact (fU this).1
 cases lo with
 | none=>cases hi with
  | none =>
   simp [qm] at h;obtain⟨rfl,rfl⟩:=h;simp [Instr.sliceBounds]
  | some y =>
   unfold qm at h;split at h <;> simp at *
   obtain⟨rfl,rfl⟩:=h;rename_i heq;have e:=ev y _ _ _ heq;simp [Instr.sliceBounds,e,la (P:=P) (w:=w) (show (0:Int)<=_ from by omega) (show _<=(cap:Int) from by omega)]
 | some x=>cases hi with
  | none =>
   unfold qm at h;split at h <;> simp at *
   obtain⟨rfl,rfl⟩:=h;rename_i heq;have e:=ev x _ _ _ heq;simp [Instr.sliceBounds,e,la (P:=P) (w:=w) (show (0:Int)<=_ from by omega) (show _<=(n:Int) from by omega)]
  | some y =>
   unfold qm at h;split at h <;> simp at *
   obtain⟨rfl,rfl⟩:=h;rename_i heq;have e1:=ev x _ _ _ heq.1;have e2:=ev y _ _ _ heq.2;have hj0:=Int.le_trans h1 h2;have hjc:=Int.le_trans h3 (Int.ofNat_le.2 hc);have hij:=Int.le_trans h2 (Int.le_of_eq (Int.toNat_of_nonneg hj0).symm);simp [Instr.sliceBounds,e1,e2,la (P:=P) (w:=w) hj0 hjc,la (P:=P) (w:=w) h1 hij]
theorem CG {e:Eff} {t:TypeId} {x:Operand} {lo hi:Option Operand} (r:cI w0 χ0 T0 s a w G) (hd:∀ k,o.dst=some k->k<a.tmps.size) (ho:o.op = .slice t x lo hi none)
  (h:iY P t lo.isSome hi.isSome (s.arg x::(lo.toList++hi.toList).map s.arg)=some e) (hc:e.cond):o.wp P a w (bG w0 χ0 T0 a.tmps.size (s.app o.dst e)) Q:=by
 have hx:=r.ev x;have run:∀ {el:TypeId} {z n c:Nat} {A:Option Addr} {i j:Int},dy P t=some (el,z)->a.eval x = .slice A n c->qm lo.isSome hi.isSome n ((lo.toList++hi.toList).map s.arg)=some (i,j)->0<=i->i<=j->j<=n->n<=c ->
   (execOp a.eval o).run P w = .ok (.value (svV A c i.toNat j.toNat z)) w:=by
  intro el z n c A i j h1 h2 h3 h4 h5 h6 h7;have hE:=eV h1;obtain⟨inf,zz,hi',_,hs,_⟩:=hE.ex;simp only[execOp,ho,h2,Instr.sliceAt,Instr.slice,Sem.run_bind,run_underlying hE.ty,Result.andThen_ok,Option.map_none,rk r h3 h4 h5 h6 h7,sizeOf,typeInfo,hi',Sem.run_pure];simp [hs,hi',svV]
 unfold iY at h;split at h
 ·rename_i t' _ as heq;simp only[List.cons.injEq] at heq;obtain⟨heq,rfl⟩:=heq;rw[(St.cE heq).1] at hx;split at h
  ·rename_i i j hu hb;simp only[dS,Option.some.injEq] at h;subst h;obtain⟨c1,c2,c3⟩:=hc;obtain⟨hv,hsz⟩:=ka hx;refine cf r hd (v := .string (t'.extract i.toNat j.toNat)) ?_ (yH ?_)
   ·simp only[execOp,ho,hv,Instr.sliceAt,Instr.slice,Sem.run_bind,run_underlying hu,Result.andThen_ok,Option.map_none,Option.isSome_none,rk r hb c1 c2 c3 (Nat.le_refl _)];simp [rk r hb c1 c2 c3 (Nat.le_refl _)]
   ·simp only[ByteArray.size_extract]; omega
  ·cases h
 ·rename_i l _ as heq;simp only[List.cons.injEq] at heq;obtain⟨heq,rfl⟩:=heq;rw[(St.cE heq).1] at hx;split at h
  ·rename_i el z i j hel hb;simp only[dS,Option.some.injEq] at h;subst h;obtain⟨c1,c2,c3,c4⟩:=hc;obtain⟨A,c,z',hv,hs,hz'⟩:=(xa hx).tA;have hzp:=(eV hel).pos;refine cf r hd (run hel hv hb c1 c2 c3 hs.cap) (Hj ?_);by_cases h0:l=[]
   ·subst h0;have:i=0:=by simp at c3; omega
    have:j=0:=by simp at c3; omega
    subst_vars
    refine Rd.sl0 (fun hA=>?_) ?_
    ·have:A=none:=by
      revert hA
      split
      ·exact id
      ·cases A <;> simp
     have:=hs.nil this;omega
    ·have:=hs.max;omega
   ·obtain⟨y,hy⟩:=List.exists_mem_of_ne_nil l h0;obtain⟨k,hk⟩:=List.mem_iff_getElem?.1 hy;have hzz:z'=z:=(hz' k y hk).symm.trans (c4 y hy);subst hzz;have h1:=(hs.take (k:=j.toNat) (by omega)).drop (k:=i.toNat) (by omega);exact Rd.uK h1 (.inl hzp)
  ·cases h
 ·rename_i as heq;simp only[List.cons.injEq] at heq;obtain⟨heq,rfl⟩:=heq;rw[(St.cE heq).1] at hx;split at h
  ·rename_i ez i j hel hb;obtain⟨el,z⟩:=ez;simp only[dS,Option.some.injEq] at h;subst h;obtain⟨rfl,rfl⟩:=hc;have hv:=k9 hx;have:=run hel hv hb (Int.le_refl _) (Int.le_refl _) (Int.le_refl _) (Nat.le_refl _);refine cf r hd (v := .slice none 0 0) ?_ ⟨rfl,by simp [aJ.ids],rfl⟩
   simpa [svV] using this
  ·cases h
 ·rename_i ob e' z' l as heq;simp only[List.cons.injEq] at heq;obtain⟨heq,rfl⟩:=heq;obtain⟨h1,h2⟩:=St.cE heq;rw[h1] at hx;have hob:s.hp ob=some (.arr e' z' l):=by simpa [Slot.ids,Cmp.ids,Cmp.leaves,aJ.ids] using h2
  have hval:a.eval x=G.hv ob:=LRd.val hx;obtain⟨hown,hbl⟩:=r.iA ob _ hob;obtain⟨A,c,hv,hlc,hcm⟩:=hown.form;split at h
  ·rename_i el z i j hel hb;split at h
   ·rename_i hzz;subst hzz;simp only[dS,Option.some.injEq] at h;subst h;obtain⟨c1,c2,c3⟩:=hc;refine cf r hd (run hel (hval.trans hv) hb c1 c2 c3 hlc) ⟨rfl,fun i hi=>?_,⟨A,_,c,hv,by omega,Int.toNat_le.2 c3,hlc,rfl⟩⟩;simp [aJ.ids] at hi;subst hi;rw[hob]; simp
   ·cases h
  ·cases h
 ·cases h
theorem M9 {e:Eff} (r:cI w0 χ0 T0 s a w G) (hd:∀ k,o.dst=some k->k<a.tmps.size) (h:opE P o.op o.dst (aY s.hp o.dst) ((Op.bL o.op).map s.arg)=some e) (hc:e.cond) :
  o.wp P a w (bG w0 χ0 T0 a.tmps.size (s.app o.dst e)) Q:=by
 have hm:((Op.bL o.op).map s.arg).map (·.1)=(Op.bL o.op).map s.ev:=by rw[List.map_map]; rfl
 unfold opE at h;rw[hm] at h;split at h <;> rename_i hop
 ·rw[hop] at h; exact xv r hd (.inl hop) h
 ·rw[hop] at h; exact xv r hd (.inr hop) h
 ·rw[hop] at h; exact Fx r hd hop h
 ·rw[hop] at h; exact CB r hd hop h
 ·rw[hop] at h; exact FD r hd hop h hc
 ·rw[hop] at h; exact CF r hd hop h hc
 ·rw[hop] at h; exact Ho r hd hop h
 ·rw[hop] at h; exact uR r hd hop h
 ·rw[hop] at h; exact Cy r hd hop h
 ·rw[hop] at h; exact uS r hd hop h hc
 ·rw[hop] at h; exact Cz r hd hop h hc
 ·rw[hop] at h; exact Hl r hd hop h hc
 ·rw[hop] at h; exact Kk r hd hop h hc
 ·rw[hop] at h; exact yI r hd hop h
 ·rw[hop] at h; exact CC r hd hop h
 ·rw[hop] at h; exact tZ r hd hop h
 ·rw[hop] at h; exact FF r hd hop h
 ·rw[hop] at h; exact CG r hd hop (by simpa [Op.bL] using h) hc
 ·rw[hop] at h; exact yK r hd hop h
 ·rw[hop] at h; exact As r hd hop h
 ·rw[hop] at h; exact va r hd hop h hc
 ·rename_i args ts;rw[hop] at h;split at h
  ·rename_i t hts;have ht:ts = #[t]:=by rw[← Array.toArray_toList (xs:=ts),hts]
   have hx:∃ x,args.toList=[x]:=by
    simp only[Op.bL,List.nil_append] at h;cases ha:args.toList with
    | nil=>rw[ha] at h; simp [kF] at h
    | cons x l =>
     cases l with
     | nil=>exact⟨x,rfl⟩
     | cons y l=>rw[ha] at h; simp [kF] at h
   obtain⟨x,hx⟩:=hx;have ha:args = #[x]:=by rw[← Array.toArray_toList (xs:=args),hx]
   subst ht ha;exact Hr r hd hop rfl h hc
  ·cases h
 ·rename_i args ts;rw[hop] at h;split at h
  ·rename_i t t' hts;split at h
   ·rename_i htt;subst htt;have ht:ts = #[t,t]:=by rw[← Array.toArray_toList (xs:=ts),hts]
    have hx:∃ x y,args.toList=[x,y]:=by
     simp only[Op.bL,List.nil_append] at h;cases ha:args.toList with
     | nil=>rw[ha] at h; simp [gM] at h
     | cons x l =>
      cases l with
      | nil=>rw[ha] at h; simp [gM] at h
      | cons y l =>
       cases l with
       | nil=>exact⟨x,y,rfl⟩
       | cons z l=>rw[ha] at h; simp [gM] at h
    obtain⟨x,y,hx⟩:=hx;have ha:args = #[x,y]:=by rw[← Array.toArray_toList (xs:=args),hx]
    subst ht ha;exact Ap r hd hop rfl h hc
   ·cases h
  ·cases h
 ·cases h
end
end Go.Lad
