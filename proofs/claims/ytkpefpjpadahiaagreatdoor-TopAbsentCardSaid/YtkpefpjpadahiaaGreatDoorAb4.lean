import Derived.Test.YtkpefpjpadahiaaGreatDoorAb3
namespace Go.Lad
set_option linter.unusedVariables false
set_option linter.unusedSimpArgs false
open Go.RowKit
section
variable {P:Program} {w0:World} {χ0:Col} {T0:Ctx} {s:St} {a:Act} {w:World} {G:Gh} {o:Oper} {Q:Exit->Act->World->Prop}
theorem tB {t:TypeId} {n:Nat} (h:gK P t=some n):∃ i,P.info? t=some i/\i.size=n:=by
 unfold gK at h;split at h
 ·rw[Option.map_eq_some_iff] at h;exact h
 ·cases h
theorem uP {t:TypeId} {n:Nat} (h:gK P t=some n):P.underlying t≠none:=by
 unfold gK at h;split at h
 ·rename_i hc; intro h0; rw[h0] at hc; cases hc
 ·cases h
theorem Cx {t:TypeId} (h:fW P t=true):∃ d,P.underlying t=some d/\d.isRow=true:=by
 unfold fW at h;split at h
 ·exact⟨_,by assumption,rfl⟩
 ·exact⟨_,by assumption,rfl⟩
 ·cases h
theorem gG {t:TypeId} (hu:P.underlying t≠none):(isAgg t).run P w = .ok (fW P t) w:=by
 unfold isAgg fW;cases h:P.underlying t with
 | none=>exact absurd h hu
 | some d =>
  rw[Sem.run_bind,run_underlying h w];cases d <;> rfl
def uk (w:World) (b off:Nat) (vs:List Value):Prop := ∀ j v,vs[j]?=some v->w.cell? ⟨b,off+j,none⟩=some v
theorem FB {t:TypeId} {b off:Nat} {v:Value} (hu:P.underlying t≠none) (ha:fW P t=false) (hc:w.cell? ⟨b,off,none⟩=some v):(Instr.loadAt t (ptr b off)).run P w = .ok v w:=by
 simp [Instr.loadAt,Instr.sureAddr,ptr,loadVar,gG hu,ha,hc]
theorem FC {t:TypeId} {n b off:Nat} {vs:List Value} (ha:fW P t=true) (hn:gK P t=some n) (hl:vs.length=n) (hc:uk w b off vs):(Instr.loadAt t (ptr b off)).run P w = .ok (.agg vs.toArray) w:=by
 obtain⟨d,hu,hd⟩:=Cx ha;obtain⟨i,hi,hs⟩:=tB hn;exact run_loadAt_mid w b off t vs d hc hu hd (by rw[hl,hi,← hs]; rfl)
theorem eu.get {α β:Type} {R:α->β->Prop} {l:List α} {m:List β} (h:eu R l m) {i:Nat} {x:α} (hi:l[i]?=some x):∃ y,m[i]?=some y/\R x y:=by
 have hlt:i<m.length:=by rw[← h.1]; exact (List.getElem?_eq_some_iff.1 hi).1
 exact⟨_,List.getElem?_eq_getElem hlt,h.2 i x _ hi (List.getElem?_eq_getElem hlt)⟩
theorem eu.cut {α β:Type} {R:α->β->Prop} {l:List α} {m:List β} (h:eu R l m) (off n:Nat):eu R ((l.drop off).take n) ((m.drop off).take n):=by
 refine⟨by simp [h.1],fun i a b ha hb=>?_⟩;rw[List.getElem?_take] at ha hb;split at ha
 ·rename_i hi;rw[if_pos hi,List.getElem?_drop] at hb;rw[List.getElem?_drop] at ha;exact h.2 _ a b ha hb
 ·cases ha
theorem pL {cs:List aJ} {vs:List Value} {off n:Nat} {t:TypeId} {c:Cmp} {b o2:Nat} (h:nU cs off n (fW P t)=some c) (hcs:eu (LRd G s.hp w) cs vs) (hn:gK P t=some n) (hu:P.underlying t≠none)
  (hc:uk w b o2 vs):∃ v,CRd G s.hp w c v/\(Instr.loadAt t (ptr b (o2+off))).run P w = .ok v w:=by
 unfold nU at h;split at h
 ·rename_i ha;split at h
  ·rename_i hle;simp only[Option.some.injEq] at h;subst h;refine⟨.agg ((vs.drop off).take n).toArray,⟨_,rfl,hcs.cut off n⟩,FC ha hn (by have:=hcs.1; simp; omega) (fun j v hj=>?_)⟩;rw[List.getElem?_take] at hj;split at hj
   ·rw[List.getElem?_drop] at hj;rw[Nat.add_assoc]; exact hc _ v hj
   ·cases hj
  ·cases h
 ·rename_i ha;rw[Option.map_eq_some_iff] at h;obtain⟨x,hx,rfl⟩:=h;obtain⟨v,hv,hr⟩:=hcs.get hx;exact⟨v,hr,FB hu (by simpa using ha) (hc off v hv)⟩
theorem Hm {b off0:Nat} {cs:List PV} (h:∀ (j:Nat) (p:PV),cs[j]?=some p->∃ u,w.cell? ⟨b,off0+j,none⟩=some u/\Rd (In G.χ 0) w p u) :
  ∃ vs:List Value,uk w b off0 vs/\eu (LRd G s.hp w) (cs.map aJ.p) vs:=by
 refine⟨(List.range cs.length).map fun j=>(w.cell? ⟨b,off0+j,none⟩).getD undef,fun j v hj=>?_,by simp,fun i x v hx hv=>?_⟩
 ·rw[List.getElem?_map,Option.map_eq_some_iff] at hj;obtain⟨j',hj',rfl⟩:=hj;have hl:j<cs.length:=by have:=(List.getElem?_eq_some_iff.1 hj').1; simpa using this
  rw[List.getElem?_range hl] at hj';injection hj' with hj'
  subst hj';obtain⟨u,hu,_⟩:=h j _ (List.getElem?_eq_getElem hl);rw[hu]; rfl
 ·rw[List.getElem?_map,Option.map_eq_some_iff] at hx;obtain⟨p,hp,rfl⟩:=hx;have hl:=(List.getElem?_eq_some_iff.1 hp).1;rw[List.getElem?_map,List.getElem?_range hl] at hv;simp only[Option.map_some,Option.some.injEq] at hv;subst hv;obtain⟨u,hu,hr⟩:=h i p hp;rw[hu];exact⟨hr.one,by simp [aJ.ids],hr⟩
theorem Hn {n:Nat} (cs:List PV) (off:Nat) (h:off<cs.length):nU (cs.map aJ.p) off n false=some (.v (.p (cs.getD off (.bool false)))):=by
 simp [nU,List.getElem?_eq_getElem h]
theorem Own.block {α:Type} [aN α] {k:Nat} {χ:Col} {e:TypeId} {v:Value} {l:List α} (h:Own k χ e w v l) (hl:l≠[]):∃ g c,v = .slice (some ⟨g,mu v,none⟩) l.length c/\v.ownBlock=some g/\g<w.heap.size:=by
 obtain⟨⟨xs,h1,h2⟩,h3⟩:=h;rcases h1.2 with⟨rfl,hn⟩ | ⟨g,cap,cur,off,rfl,hb,hgg,hc,hm,hr⟩
 ·exact absurd (List.eq_nil_of_length_eq_zero hn) hl
 ·exact⟨g,cap,rfl,rfl,hgg.lt⟩
theorem xw {ob:Nat} {e:TypeId} {z:Nat} {l:List (List PV)} (h:HRd G s.hp w ob (.arr e z l)) {i:Nat} (hi:i<l.length) :
  ∃ vs:List Value,vs.length=z/\uk w (G.bl ob) (mu (G.hv ob)+i * z) vs/\eu (LRd G s.hp w) ((l.getD i []).map aJ.p) vs:=by
 obtain⟨ho,hb⟩:=h;have hne:l≠[]:=by intro h0; subst h0; simp at hi
 obtain⟨g,c,hv,hg,_⟩:=ho.block hne;obtain⟨⟨xs,h1,h2⟩,h3⟩:=ho;have hx:l[i]?=some (l.getD i []):=by simp [List.getD,List.getElem?_eq_getElem hi]
 obtain⟨hz,hrl,hrd⟩:=h2 i _ hx;refine⟨chunk z i xs,hz,fun j u hj=>?_,by rw[List.length_map]; exact hrl,fun j x v hx hv'=>?_⟩
 ·obtain⟨hjz,hj'⟩:=su hj;rw[← hb g hg];have:=h1.cells hg _ u hj';rw[fT,← Nat.add_assoc] at this;exact this
 ·rw[List.getElem?_map,Option.map_eq_some_iff] at hx;obtain⟨p,hp,rfl⟩:=hx;have:=hrd j p v hp hv';exact⟨this.one,by simp [aJ.ids],this⟩
theorem FD {e:Eff} {t:TypeId} {x:Operand} (r:cI w0 χ0 T0 s a w G) (hd:∀ k,o.dst=some k->k<a.tmps.size) (ho:o.op = .load t x) (h:k7 P t [s.arg x]=some e) (hc:e.cond) :
  o.wp P a w (bG w0 χ0 T0 a.tmps.size (s.app o.dst e)) Q:=by
 have hx:=r.ev x;have hu:∀ {n},gK P t=some n->P.underlying t≠none:=uP;have fin:∀ (c:Cmp) (q:Prop) v,CRd G s.hp w c v->(Instr.loadAt t (a.eval x)).run P w = .ok v w->o.wp P a w (bG w0 χ0 T0 a.tmps.size (s.app o.dst ⟨q,.c c,[]⟩)) Q:=by
  intro c q v h1 h2;exact cf r hd (by simp [execOp,ho,h2]) h1
 unfold k7 at h;split at h
 ·rename_i ob off bt cs heq;simp only[List.cons.injEq,and_true] at heq;obtain⟨h1,h2⟩:=St.cE heq;rw[h1] at hx;have hob:s.hp ob=some (.box bt cs):=by simpa [Slot.ids,Cmp.ids,Cmp.leaves,aJ.ids] using h2
  have hval:a.eval x=ptr (G.bl ob) off:=LRd.val hx;obtain⟨vs,hb,_,hall⟩:=r.iA ob _ hob;split at h
  ·rename_i n hn;rw[Option.bind_eq_some_iff] at h;obtain⟨c,hcut,h⟩:=h;simp only[val,Option.some.injEq] at h;subst h;obtain⟨v,g1,g2⟩:=pL (b:=G.bl ob) (o2:=0) hcut hall hn (hu hn) (fun j v hj=>by rw[hb.cell]; simpa using hj);exact fin c _ v g1 (by rw[hval]; simpa using g2)
  ·cases h
 ·rename_i cs off _ heq;simp only[List.cons.injEq,and_true] at heq;rw[(St.cE heq).1] at hx;obtain⟨b,off0,hv,hb,hbl,hcells⟩:LVal G w (.ip cs off) (a.eval x):=by
   exact LRd.val hx
  obtain⟨vs,g1,g2⟩:=Hm (s:=s) hcells;split at h
  ·rename_i n hn;split at h
   ·rename_i hagg;simp only[dS,Option.some.injEq] at h;subst h;have hle:off+n<=cs.length:=hc;have hcut:nU (cs.map aJ.p) off n (fW P t)=some (.g (((cs.drop off).take n).map aJ.p)):=by
     unfold nU;rw[if_pos hagg,if_pos (by simpa using hle),List.map_take,List.map_drop]
    obtain⟨v,k1,k2⟩:=pL hcut g2 hn (hu hn) g1;exact fin _ _ v k1 (by rw[hv]; exact k2)
   ·rename_i hagg;simp only[dS,Option.some.injEq] at h;subst h;have hle:off<cs.length:=hc;have hcut:nU (cs.map aJ.p) off n (fW P t)=some (.v (.p (cs.getD off (.bool false)))):=by
     unfold nU;rw[if_neg hagg];simp [List.getElem?_eq_getElem hle]
    obtain⟨v,k1,k2⟩:=pL hcut g2 hn (hu hn) g1;exact fin _ _ v k1 (by rw[hv]; exact k2)
  ·cases h
 ·rename_i ob i off z e' z' l heq;simp only[List.cons.injEq,and_true] at heq;obtain⟨h1,h2⟩:=St.cE heq;rw[h1] at hx;have hob:s.hp ob=some (.arr e' z' l):=by simpa [Slot.ids,Cmp.ids,Cmp.leaves,aJ.ids] using h2
  have hval:a.eval x=ptr (G.bl ob) (mu (G.hv ob)+i * z+off):=by rw[Nat.add_assoc]; exact LRd.val hx
  split at h
  ·rename_i n hn;split at h
   ·rename_i hzz;subst hzz;split at h
    ·rename_i hagg;simp only[dS,Option.some.injEq] at h;subst h;obtain⟨hi,hle⟩:i<l.length/\off+n<=z:=hc;obtain⟨vs,g0,g1,g2⟩:=xw (r.iA ob _ hob) hi;have hcut:nU ((l.getD i []).map aJ.p) off n (fW P t)=some (.g ((((l.getD i []).drop off).take n).map aJ.p)):=by
      unfold nU;have:=g2.1;rw[if_pos hagg,if_pos (by omega),List.map_take,List.map_drop]
     obtain⟨v,k1,k2⟩:=pL hcut g2 hn (hu hn) g1;exact fin _ _ v k1 (by rw[hval]; exact k2)
    ·rename_i hagg;simp only[dS,Option.some.injEq] at h;subst h;obtain⟨hi,hle⟩:i<l.length/\off<z:=hc;obtain⟨vs,g0,g1,g2⟩:=xw (r.iA ob _ hob) hi;have hcut:nU ((l.getD i []).map aJ.p) off n (fW P t)=some (.v (.p ((l.getD i []).getD off (.bool false)))):=by
      have:=g2.1;rw[List.length_map] at this;rw[show fW P t=false by simpa using hagg];exact Hn _ _ (by omega)
     obtain⟨v,k1,k2⟩:=pL hcut g2 hn (hu hn) g1;exact fin _ _ v k1 (by rw[hval]; exact k2)
   ·cases h
  ·cases h
 ·cases h
end
end Go.Lad
