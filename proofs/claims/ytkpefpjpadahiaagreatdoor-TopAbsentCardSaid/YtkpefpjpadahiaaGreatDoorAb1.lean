import Derived.Test.YtkpefpjpadahiaaGreatDoorMaps
import Derived.Lib.Space
import Derived.Lib.ItoaNum
import Derived.Lib.LaidTab
namespace Go.Lad
set_option linter.unusedVariables false
set_option linter.unusedSimpArgs false
open Go.RowKit
inductive PV where
 | int (k:IntKind) (n:Int)
 | bool (b:Bool)
 | str (s:ByteArray)
 | sl (l:List (List PV))
 | oth (v:Value)
 | mp (k:IntKind) (m:List (Int×List (List PV)))
def Ad (k:IntKind) (n:Int):Value := .int k n
def inK (k:IntKind) (n:Int):Prop:=k.min<=n/\n<=k.max
inductive Rd (F:Nat->Prop) (w:World):PV->Value->Prop
 | int {k n} (h:inK k n):Rd F w (.int k n) (.int k n)
 | bool {b}:Rd F w (.bool b) (.bool b)
 | str {s} (h:s.size<=9223372036854775807):Rd F w (.str s) (.string s)
 | oth {v} (h:v.oneCell'=true):Rd F w (.oth v) v
 | sl0 {A c} (h:A=none->c=0) (hm:c<=9223372036854775807):Rd F w (.sl []) (.slice A 0 c)
 | sl {l:List (List PV)} {b off c z:Nat} (us:Nat->Nat->Value) (h0:l≠[]) (hF:F b) (hb:b<w.heap.size) (hc:l.length<=c) (hm:c<=9223372036854775807)
   (hz:∀ (i:Nat) (cs:List PV),l[i]?=some cs->cs.length=z)
   (hcell:∀ (i j:Nat) (cs:List PV) (p:PV),l[i]?=some cs->cs[j]?=some p->w.cell? ⟨b,off+i * z+j,none⟩=some (us i j))
   (hrd:∀ (i j:Nat) (cs:List PV) (p:PV),l[i]?=some cs->cs[j]?=some p->Rd F w p (us i j)):Rd F w (.sl l) (.slice (some ⟨b,off,none⟩) l.length c)
 | mp {k:IntKind} {m:List (Int×List (List PV))} {b:Nat} {es:Array MapEntry} {clock:Nat} (mv:List (Int×Value)) (hF:F b) (hm:fP (Ad k) (id:Value->Value) w b es clock mv) (hk:mv.map (·.1)=m.map (·.1))
  (hrd:∀ (i:Nat) x y,mv[i]?=some x->m[i]?=some y->Rd F w (.sl y.2) x.2):Rd F w (.mp k m) (.map (some b))
theorem Rd.one {F:Nat->Prop} {w:World} {p:PV} {v:Value} (h:Rd F w p v):v.oneCell'=true:=by
 cases h <;> first | rfl | assumption
theorem Rd.frame {F F':Nat->Prop} {w w':World} {p:PV} {v:Value} (hf:∀ b,F b->b<w.heap.size->F' b/\w'.heap[b]?=w.heap[b]?) (h:Rd F w p v):Rd F' w' p v:=by
 induction h with
 | int h=>exact .int h
 | bool=>exact .bool
 | str h=>exact .str h
 | oth h=>exact .oth h
 | sl0 h hm=>exact .sl0 h hm
 | sl us h0 hF hb hc hm hz hcell hrd ih =>
  obtain⟨h1,h2⟩:=hf _ hF hb;refine .sl us h0 h1 ?_ hc hm hz (fun i j cs p hi hj=>?_) ih
  ·rw[Array.getElem?_eq_getElem hb] at h2;exact (Array.getElem?_eq_some_iff.1 h2).1
  ·exact (World.cell?_of_block (w:=w) (a:=⟨_,_,none⟩) h2).trans (hcell i j cs p hi hj)
 | mp mv hF hm hk hrd ih =>
  obtain⟨h1,h2⟩:=hf _ hF hm.lt;exact .mp mv h1 (hm.frame h2) hk ih
def CZ (_:Nat):=List PV
def RdL (F:Nat->Prop) (w:World) (ps:List PV) (vs:List Value):Prop:=ps.length=vs.length/\∀ (j:Nat) (p:PV) (v:Value),ps[j]?=some p->vs[j]?=some v->Rd F w p v
theorem RdL.frame {F F':Nat->Prop} {w w':World} {ps:List PV} {vs:List Value} (hf:∀ b,F b->b<w.heap.size->F' b/\w'.heap[b]?=w.heap[b]?) (h:RdL F w ps vs):RdL F' w' ps vs :=
 ⟨h.1,fun j p v hp hv=>Rd.frame hf (h.2 j p v hp hv)⟩
theorem RdL.one {F:Nat->Prop} {w:World} {ps:List PV} {vs:List Value} (h:RdL F w ps vs):∀ u∈vs,u.oneCell'=true:=by
 intro u hu;obtain⟨j,hj⟩:=List.mem_iff_getElem?.1 hu;have hl:=(List.getElem?_eq_some_iff.1 hj).1;exact (h.2 j _ u (List.getElem?_eq_getElem (by rw[h.1]; exact hl)) hj).one
instance (z:Nat):aN (CZ z) where
 sz:=z
 rd F w cs x:=cs.length=z/\RdL F w (show List PV from x) cs
 len h:=h.1
 one h:=h.2.one
 frame hf h:=⟨h.1,h.2.frame hf⟩
theorem Rd.tA {F:Nat->Prop} {w:World} {l:List (List PV)} {v:Value} (h:Rd F w (.sl l) v):∃ A c z,v = .slice A l.length c/\Sl (α:=CZ z) F w A l.length c l/\∀ (i:Nat) (cs:List PV),l[i]?=some cs->cs.length=z:=by
 cases h with
 | @sl0 A c h hm=>exact⟨A,c,0,rfl,⟨rfl,Nat.zero_le _,hm,h,fun h=>absurd h (by simp)⟩,by simp⟩
 | @sl _ b off c z us h0 hF hb hc hm hz hcell hrd =>
  refine⟨_,c,z,rfl,⟨rfl,hc,hm,(by intro h; cases h),fun hn=>⟨b,off,rfl,fun i x hx=>?_⟩⟩,hz⟩;have hxl:(show List PV from x).length=z:=hz i x hx;refine⟨(List.range z).map (us i),⟨by simp,by simpa using hxl,fun j p v hp hv=>?_⟩,fun j u hu=>⟨hF,?_⟩⟩
  ·rw[List.getElem?_map,List.getElem?_range (by have:=(List.getElem?_eq_some_iff.1 hp).1; omega)] at hv;simp at hv;subst hv;exact hrd i j x p hx hp
  ·rw[List.getElem?_map,Option.map_eq_some_iff] at hu;obtain⟨j',hj',rfl⟩:=hu;have hjz:j<z:=by have:=(List.getElem?_eq_some_iff.1 hj').1; simpa using this
   rw[List.getElem?_range hjz] at hj';injection hj' with hj'
   subst hj';obtain⟨p,hp⟩:∃ p,(show List PV from x)[j]?=some p:=⟨_,List.getElem?_eq_getElem (by omega)⟩;exact hcell i j x p hx hp
theorem Rd.uK {F:Nat->Prop} {w:World} {z:Nat} {l:List (List PV)} {A:Option Addr} {n c:Nat} (h:Sl (α:=CZ z) F w A n c l) (hF:0<z\/∀ b off,A=some ⟨b,off,none⟩->F b/\b<w.heap.size):Rd F w (.sl l) (.slice A n c):=by
 have hn:=h.len;subst hn;by_cases h0:l=[]
 ·subst h0; exact .sl0 h.nil h.max
 ·obtain⟨b,off,rfl,H⟩:=h.at_ (by have:=List.length_pos_iff.2 h0; exact this);have hlen:∀ (i:Nat) (cs:List PV),l[i]?=some cs->cs.length=z:=fun i cs hi=>by
   obtain⟨vs,⟨h1,h2⟩,_⟩:=H i cs hi;exact h2.1.trans h1
  have hFb:F b/\b<w.heap.size:=by
   rcases hF with hz | hF
   ·obtain⟨cs,hcs⟩:∃ cs,l[0]?=some cs:=⟨_,List.getElem?_eq_getElem (List.length_pos_iff.2 h0)⟩;obtain⟨vs,⟨h1,h2⟩,h3⟩:=H 0 cs hcs;obtain⟨u,hu⟩:∃ u,vs[0]?=some u:=⟨_,List.getElem?_eq_getElem (by rw[h1]; exact hz)⟩;exact⟨(h3 0 u hu).1,qY (h3 0 u hu).2⟩
   ·exact hF b off rfl
  have key:∃ us:Nat->Nat->Value,∀ (i j:Nat) (cs:List PV) (p:PV),l[i]?=some cs->cs[j]?=some p->w.cell? ⟨b,off+i * z+j,none⟩=some (us i j)/\Rd F w p (us i j):=by
   refine⟨fun i j=>(w.cell? ⟨b,off+i * z+j,none⟩).getD undef,fun i j cs p hi hj=>?_⟩;obtain⟨vs,⟨h1,h2⟩,h3⟩:=H i cs hi;obtain⟨u,hu⟩:∃ u,vs[j]?=some u:=⟨_,List.getElem?_eq_getElem (by rw[h1,← hlen i cs hi]; exact (List.getElem?_eq_some_iff.1 hj).1)⟩;have hc:w.cell? ⟨b,off+i * z+j,none⟩=some u:=(h3 j u hu).2;dsimp only;rw[hc];exact⟨rfl,h2.2 j p u hj hu⟩
  obtain⟨us,hus⟩:=key;exact .sl us h0 hFb.1 hFb.2 h.cap h.max hlen (fun i j cs p hi hj=>(hus i j cs p hi hj).1) (fun i j cs p hi hj=>(hus i j cs p hi hj).2)
inductive aJ where
 | dead
 | p (p:PV)
 | nil
 | loc (o off:Nat)
 | own (o:Nat)
 | el (o i off z:Nat)
 | ip (cs:List PV) (off:Nat)
 | mp (o:Nat)
 | fn (f:FuncId) (caps:List Nat)
 | nb (pos:Bool) (l:List (List PV))
 | sv (o a b z:Nat)
 | tl (l:List (List PV))
 | ps (o:Nat)
def aJ.ids:aJ->List Nat
 | .loc o _ | .own o | .el o _ _ _ | .mp o | .sv o _ _ _ | .ps o=>[o]
 | .fn _ caps=>caps
 | _=>[]
inductive Cmp where
 | v (x:aJ)
 | g (xs:List aJ)
def Cmp.leaves:Cmp->List aJ
 | .v x=>[x]
 | .g xs=>xs
inductive Slot where
 | dead
 | c (c:Cmp)
 | t (l:List Cmp)
def Cmp.ids (c:Cmp):List Nat:=c.leaves.flatMap aJ.ids
def Slot.ids:Slot->List Nat
 | .dead=>[]
 | .c x=>x.ids
 | .t l=>l.flatMap Cmp.ids
inductive df where
 | gone
 | box (t:TypeId) (cs:List aJ)
 | arr (e:TypeId) (z:Nat) (l:List (List PV))
 | fO (k:IntKind) (agg:Bool) (m:List (Int×List PV))
 | fa (agg:Bool) (m:List (ByteArray×List PV))
 | fb (k:IntKind) (agg:Bool) (m:List ((Int×ByteArray)×List PV))
 | ql (k:IntKind) (agg:Bool) (m:List ((Int×ByteArray)×List PV)) (key:Int×ByteArray) (d:Nat)
 | kV (k:IntKind) (e:TypeId) (z:Nat) (m:List (Int×List (List PV))) (h:Option Int)
 | lit (e:TypeId) (cs:List aJ)
def df.ids:df->List Nat
 | .box _ cs=>cs.flatMap aJ.ids
 | .lit _ cs=>cs.flatMap aJ.ids
 | .ql _ _ _ _ d=>[d]
 | _=>[]
abbrev Hp:=Nat->Option df
structure Gh where
 χ:Col
 bl:Nat->Nat
 hv:Nat->Value
def ptr (b off:Nat):Value := .pointer (some ⟨b,off,none⟩)
def svV (A:Option Addr) (c a b z:Nat):Value := .slice (if c=a then A else A.map (·.add (a * z))) (b-a) (c-a)
def fnV (c:Nat) (l:List Value):Value:=if c % 2=0 then .func (.func (c / 2)) #[] l.toArray else .func (.func (c / 2)) l.toArray #[]
theorem Ae (f:Nat) (l:List Value):fnV (2 * f) l = .func (.func f) #[] l.toArray:=by unfold fnV; rw[if_pos (by omega),show 2 * f / 2=f by omega]
theorem Ki (f:Nat) (l:List Value):fnV (2 * f+1) l = .func (.func f) l.toArray #[]:=by unfold fnV; rw[if_neg (by omega),show (2 * f+1) / 2=f by omega]
def LVal (G:Gh) (w:World):aJ->Value->Prop
 | .dead,_=>True
 | .p p,v=>Rd (In G.χ 0) w p v
 | .nil,v=>v = .slice none 0 0
 | .loc o off,v=>v=ptr (G.bl o) off
 | .own o,v=>v=G.hv o
 | .el o i off z,v=>v=ptr (G.bl o) (mu (G.hv o)+(i * z+off))
 | .ip cs off,v=>∃ b off0,v=ptr b (off0+off)/\In G.χ 0 b/\b<w.heap.size/\∀ j p,cs[j]?=some p->∃ u,w.cell? ⟨b,off0+j,none⟩=some u/\Rd (In G.χ 0) w p u
 | .mp o,v=>v = .map (some (G.bl o))
 | .nb pos l,v=>∃ b,v = .bool b/\(b=pos->l=[])
 | .fn f caps,v=>v=fnV f (caps.map fun o=>ptr (G.bl o) 0)
 | .sv o a b z,v=>∃ A n c,G.hv o = .slice A n c/\a<=b/\b<=n/\n<=c/\v=svV A c a b z
 | .tl l,v=>Rd (In G.χ 0) w (.sl l) v/\∀ A n c,v = .slice A n c->n=c
 | .ps o,v=>v = .pointer none\/v=ptr (G.bl o) 0
structure LRd (G:Gh) (hp:Hp) (w:World) (x:aJ) (v:Value):Prop where
 one:v.oneCell'=true
 ids:∀ o∈x.ids,hp o≠none
 val:LVal G w x v
def eu {α β:Type} (R:α->β->Prop) (l:List α) (m:List β):Prop:=l.length=m.length/\∀ (i:Nat) a b,l[i]?=some a->m[i]?=some b->R a b
def CRd (G:Gh) (hp:Hp) (w:World):Cmp->Value->Prop
 | .v x,v=>LRd G hp w x v
 | .g xs,v=>∃ vs:List Value,v = .agg vs.toArray/\eu (LRd G hp w) xs vs
def SRd (G:Gh) (hp:Hp) (w:World):Slot->Value->Prop
 | .dead,_=>True
 | .c c,v=>CRd G hp w c v
 | .t l,v=>∃ vs:List Value,v = .tuple vs.toArray/\eu (CRd G hp w) l vs
def PV.toV:PV->Value
 | .int k n=>.int k n
 | .bool b=>.bool b
 | .str s=>.string s
 | .oth v=>v
 | .sl _=>.nilFunc
 | .mp _ _=>.nilFunc
def PV.Plain:PV->Prop
 | .int k n=>inK k n
 | .str s=>s.size<=9223372036854775807
 | .oth v=>v.oneCell'=true
 | .bool _=>True
 | .sl _=>False
 | .mp _ _=>False
theorem PV.Plain.rd {F:Nat->Prop} {w:World} {p:PV} (h:p.Plain):Rd F w p p.toV:=by
 cases p with
 | int k n=>exact .int h
 | bool b=>exact .bool
 | str s=>exact .str h
 | oth v=>exact .oth h
 | sl l=>exact h.elim
 | mp k m=>exact h.elim
def re (agg:Bool) (ps:List PV):Value:=if agg then .agg (ps.map PV.toV).toArray else (ps.headD (.bool false)).toV
def mW (agg:Bool) (ps:List PV):Prop:=(∀ p∈ps,p.Plain)/\(agg=false->ps.length=1)
def Cv (s:ByteArray):Value := .string s
def sy (k:IntKind) (x:Int×ByteArray):Value := .agg #[.int k x.1,.string x.2]
def uL (F:Nat->Prop) (w:World) (agg:Bool) (ps:List PV) (v:Value):Prop :=
 match agg with
 | true=>∃ vs:List Value,v = .agg vs.toArray/\RdL F w ps vs
 | false=>∃ p,ps=[p]/\Rd F w p v
theorem uL.frame {F F':Nat->Prop} {w w':World} {agg:Bool} {ps:List PV} {v:Value} (hf:∀ b,F b->b<w.heap.size->F' b/\w'.heap[b]?=w.heap[b]?) (h:uL F w agg ps v):uL F' w' agg ps v:=by
 cases agg with
 | true=>obtain⟨vs,h1,h2⟩:=h; exact⟨vs,h1,h2.frame hf⟩
 | false=>obtain⟨p,h1,h2⟩:=h; exact⟨p,h1,h2.frame hf⟩
def nq (F:Nat->Prop) (w:World) (agg:Bool) (mv:List (ByteArray×Value)) (m:List (ByteArray×List PV)):Prop :=
 mv.map (·.1)=m.map (·.1)/\∀ (i:Nat) x y,mv[i]?=some x->m[i]?=some y->uL F w agg y.2 x.2
theorem nq.frame {F F':Nat->Prop} {w w':World} {agg:Bool} {mv:List (ByteArray×Value)} {m:List (ByteArray×List PV)} (hf:∀ b,F b->b<w.heap.size->F' b/\w'.heap[b]?=w.heap[b]?) (h:nq F w agg mv m):nq F' w' agg mv m :=
 ⟨h.1,fun i x y hx hy=>(h.2 i x y hx hy).frame hf⟩
def OB (c:Nat) (χ:Col) (e:TypeId) (w:World) (z:Nat) (h:Option Int) (mv:List (Int×Value)) (m:List (Int×List (List PV))):Prop :=
 mv.map (·.1)=m.map (·.1)/\(∀ (i:Nat) x y,mv[i]?=some x->m[i]?=some y->h≠some x.1->Own (α:=CZ z) c χ e w x.2 y.2) /\
 (∀ (i j:Nat) x y g,i≠j->mv[i]?=some x->mv[j]?=some y->h≠some x.1->h≠some y.1->x.2.ownBlock=some g->y.2.ownBlock≠some g)/\(m.map (·.1)).Nodup
def HRd (G:Gh) (hp:Hp) (w:World) (o:Nat):df->Prop
 | .gone=>True
 | .box t cs=>∃ vs:List Value,Blk w (G.bl o) t vs.toArray/\G.χ (G.bl o)=o+2/\eu (LRd G hp w) cs vs
 | .arr e z l=>Own (α:=CZ z) (o+2) G.χ e w (G.hv o) l/\∀ b,(G.hv o).ownBlock=some b->b=G.bl o
 | .fO k agg m=>∃ es clock,fP (Ad k) (re agg) w (G.bl o) es clock m/\G.χ (G.bl o)=o+2/\∀ x∈m,mW agg x.2
 | .fa agg m=>∃ es clock mv,fP Cv (id:Value->Value) w (G.bl o) es clock mv/\G.χ (G.bl o)=o+2/\nq (In G.χ 0) w agg mv m
 | .fb k agg m=>∃ es clock,fP (sy k) (re agg) w (G.bl o) es clock m/\G.χ (G.bl o)=o+2/\∀ x∈m,mW agg x.2
 | .ql k agg m key d=>∃ es clock,fP (sy k) (re agg) w (G.bl o) es clock m/\G.χ (G.bl o)=o+2/\(∀ x∈m,mW agg x.2)/\hp d≠none/\∃ i e,pos (m.map (·.1)) key=some i/\es.toList[i]?=some e/\G.hv d = .int .i64 e.born
 | .kV k e z m h=>∃ es clock mv,fP (Ad k) (id:Value->Value) w (G.bl o) es clock mv/\G.χ (G.bl o)=o+2/\OB (o+2) G.χ e w z h mv m
 | .lit e cs=>∃ vs:List Value,Blk w (G.bl o) e vs.toArray/\G.χ (G.bl o)=o+2/\eu (LRd G hp w) cs vs/\G.hv o = .slice (some ⟨G.bl o,0,none⟩) cs.length cs.length/\cs.length<=100
structure Ext (G:Gh) (hp:Hp) (w:World) (G':Gh) (hp':Hp) (w':World):Prop where
 blk:∀ b,In G.χ 0 b->b<w.heap.size->In G'.χ 0 b/\w'.heap[b]?=w.heap[b]?
 bl:∀ o,hp o≠none\/1000000<=o->G'.bl o=G.bl o
 hv:∀ o,hp o≠none\/1000000<=o->G'.hv o=G.hv o
 there:∀ o,hp o≠none->hp' o≠none
theorem LRd.ext {G G':Gh} {hp hp':Hp} {w w':World} {x:aJ} {v:Value} (h:LRd G hp w x v) (e:Ext G hp w G' hp' w'):LRd G' hp' w' x v:=by
 refine⟨h.one,fun o ho=>e.there o (h.ids o ho),?_⟩;have hv:=h.val;cases x with
 | dead=>trivial
 | p p=>exact Rd.frame e.blk hv
 | nil=>exact hv
 | loc o off=>rw[LVal,e.bl o (.inl (h.ids o (by simp [aJ.ids])))]; exact hv
 | own o=>rw[LVal,e.hv o (.inl (h.ids o (by simp [aJ.ids])))]; exact hv
 | el o i off z=>rw[LVal,e.bl o (.inl (h.ids o (by simp [aJ.ids]))),e.hv o (.inl (h.ids o (by simp [aJ.ids])))]; exact hv
 | ip cs off =>
  obtain⟨b,off0,h1,h2,h3,h4⟩:=hv;obtain⟨h5,h6⟩:=e.blk b h2 h3;refine⟨b,off0,h1,h5,?_,fun j p hj=>?_⟩
  ·rw[Array.getElem?_eq_getElem h3] at h6;exact (Array.getElem?_eq_some_iff.1 h6).1
  ·obtain⟨u,hu,hr⟩:=h4 j p hj;exact⟨u,(World.cell?_of_block (w:=w) (a:=⟨_,_,none⟩) h6).trans hu,Rd.frame e.blk hr⟩
 | mp o=>rw[LVal,e.bl o (.inl (h.ids o (by simp [aJ.ids])))]; exact hv
 | nb pos l=>exact hv
 | tl l=>exact⟨Rd.frame e.blk hv.1,hv.2⟩
 | sv o a b z=>rw[LVal,e.hv o (.inl (h.ids o (by simp [aJ.ids])))]; exact hv
 | ps o=>rw[LVal,e.bl o (.inl (h.ids o (by simp [aJ.ids])))]; exact hv
 | fn f caps =>
  have:caps.map (fun o=>ptr (G'.bl o) 0)=caps.map (fun o=>ptr (G.bl o) 0):=List.map_congr_left fun o ho=>by rw[e.bl o (.inl (h.ids o ho))]
  rw[LVal,this]; exact hv
theorem eu.mono {α β:Type} {R R':α->β->Prop} {l:List α} {m:List β} (h:eu R l m) (hr:∀ a b,R a b->R' a b):eu R' l m:=⟨h.1,fun i a b ha hb=>hr _ _ (h.2 i a b ha hb)⟩
theorem CRd.ext {G G':Gh} {hp hp':Hp} {w w':World} {x:Cmp} {v:Value} (h:CRd G hp w x v) (e:Ext G hp w G' hp' w'):CRd G' hp' w' x v:=by
 cases x with
 | v x=>exact LRd.ext h e
 | g xs=>obtain⟨vs,h1,h2⟩:=h; exact⟨vs,h1,h2.mono fun a b h=>h.ext e⟩
theorem SRd.ext {G G':Gh} {hp hp':Hp} {w w':World} {x:Slot} {v:Value} (h:SRd G hp w x v) (e:Ext G hp w G' hp' w'):SRd G' hp' w' x v:=by
 cases x with
 | dead=>trivial
 | c c=>exact CRd.ext h e
 | t l=>obtain⟨vs,h1,h2⟩:=h; exact⟨vs,h1,h2.mono fun a b h=>h.ext e⟩
structure Chg (T:List Nat) (χ:Col) (w:World) (χ':Col) (w':World):Prop where
 os:w'.os=w.os
 tape:w'.tape=w.tape
 output:w'.output=w.output
 size:w.heap.size<=w'.heap.size
 col:∀ b,b<w.heap.size->χ b∉T->χ' b=χ b
 block:∀ b,b<w.heap.size->χ b∉T->w'.heap[b]?=w.heap[b]?
theorem Step.chg {T:List Nat} {χ χ':Col} {w w':World} (h:Step T χ w χ' w'):Chg T χ w χ' w':=⟨h.os,h.tape,h.output,h.size,fun b hb _=>h.col b hb,h.block⟩
theorem Own.chg {α:Type} [aN α] {T:List Nat} {k:Nat} {χ χ':Col} {e:TypeId} {w w':World} {v:Value} {l:List α} (h:Own k χ e w v l) (s:Chg T χ w χ' w') (hk:k∉T) (h0:0∉T):Own k χ' e w' v l:=by
 obtain⟨⟨xs,h1,h2⟩,h3⟩:=h;have hfr:∀ b,In χ 0 b->b<w.heap.size->In χ' 0 b/\w'.heap[b]?=w.heap[b]? := fun b hb hl =>
  ⟨(s.col b hl (by rw[show χ b=0 from hb]; exact h0)).trans hb,s.block b hl (by rw[show χ b=0 from hb]; exact h0)⟩
 refine⟨⟨xs,⟨h1.1,?_⟩,fun i x hx=>aN.frame hfr (h2 i x hx)⟩,fun g hg=>?_⟩
 ·rcases h1.2 with hn | ⟨g,cap,cur,off,rfl,hb,hgg,rest⟩
  ·exact .inl hn
  ·refine .inr ⟨g,cap,cur,off,rfl,hb,?_,rest⟩;exact hgg.frame (s.block g hgg.lt (by rw[h3 g rfl]; exact hk))
 ·rw[s.col g (h1.lt g hg).2 (by rw[h3 g hg]; exact hk)]; exact h3 g hg
theorem HRd.ext {G G':Gh} {hp hp':Hp} {w w':World} {o:Nat} {h:df} {T:List Nat} (hr:HRd G hp w o h) (e:Ext G hp w G' hp' w') (s:Chg T G.χ w G'.χ w') (hT:o+2∉T) (h0:0∉T) (ho:hp o≠none):HRd G' hp' w' o h:=by
 cases h with
 | gone=>trivial
 | box t cs =>
  obtain⟨vs,h1,h2,h3⟩:=hr;rw[HRd,e.bl o (.inl ho)];exact⟨vs,(s.block _ h1.lt (by rw[h2]; exact hT)).trans h1,(s.col _ h1.lt (by rw[h2]; exact hT)).trans h2,h3.mono fun a b h=>h.ext e⟩
 | arr t z l =>
  rw[HRd,e.bl o (.inl ho),e.hv o (.inl ho)];exact⟨hr.1.chg s hT h0,hr.2⟩
 | fO k agg m =>
  obtain⟨es,clock,h1,h2,h3⟩:=hr;rw[HRd,e.bl o (.inl ho)];exact⟨es,clock,h1.frame (s.block _ h1.lt (by rw[h2]; exact hT)),(s.col _ h1.lt (by rw[h2]; exact hT)).trans h2,h3⟩
 | fa agg m =>
  obtain⟨es,clock,mv,h1,h2,h3⟩:=hr;rw[HRd,e.bl o (.inl ho)];exact⟨es,clock,mv,h1.frame (s.block _ h1.lt (by rw[h2]; exact hT)),(s.col _ h1.lt (by rw[h2]; exact hT)).trans h2,h3.frame e.blk⟩
 | fb k agg m =>
  obtain⟨es,clock,h1,h2,h3⟩:=hr;rw[HRd,e.bl o (.inl ho)];exact⟨es,clock,h1.frame (s.block _ h1.lt (by rw[h2]; exact hT)),(s.col _ h1.lt (by rw[h2]; exact hT)).trans h2,h3⟩
 | ql k agg m key d =>
  obtain⟨es,clock,h1,h2,h3,h4,i,e',h5,h6,h7⟩:=hr;rw[HRd,e.bl o (.inl ho)];exact⟨es,clock,h1.frame (s.block _ h1.lt (by rw[h2]; exact hT)),(s.col _ h1.lt (by rw[h2]; exact hT)).trans h2,h3,e.there d h4,i,e',h5,h6,(e.hv d (.inl h4)).trans h7⟩
 | kV k t z m h =>
  obtain⟨es,clock,mv,h1,h2,h3,h4,h5⟩:=hr;rw[HRd,e.bl o (.inl ho)];exact⟨es,clock,mv,h1.frame (s.block _ h1.lt (by rw[h2]; exact hT)),(s.col _ h1.lt (by rw[h2]; exact hT)).trans h2,h3,fun i x y hx hy hh=>(h4 i x y hx hy hh).chg s hT h0,h5⟩
 | lit t cs =>
  obtain⟨vs,h1,h2,h3,h4,h5⟩:=hr;rw[HRd,e.bl o (.inl ho),e.hv o (.inl ho)];exact⟨vs,(s.block _ h1.lt (by rw[h2]; exact hT)).trans h1,(s.col _ h1.lt (by rw[h2]; exact hT)).trans h2,h3.mono fun a b h=>h.ext e,h4,h5⟩
structure St where
 tm:Nat->Slot
 hp:Hp
def upd {α:Type} (f:Nat->α) (k:Nat) (v:α):Nat->α:=fun j=>if j=k then v else f j
def St.put (s:St) (d:Option Nat) (x:Slot):St:=match d with | some d=>{ s with tm:=upd s.tm d x } | none=>s
structure Ctx where
 T:Nat->Prop
 bl:Nat->Nat
 hv:Nat->Value
 lo:Nat
def w6 (g:Nat):Option (List PV):=none
def He (g:Nat):Bool:=Nat.beq g 0
def Hf (g:Nat):Option (IntKind×List Int):=match g with | 1=>some (.u64,Lib.pow10Tab) | 2=>some (.u8,Lib.asciiSpaceTab) | _=>none
def Hg (g:Nat):Prop:=(w6 g).isSome=true\/He g=true\/(Hf g).isSome=true
def D3 (w:World) (g:Nat) (k:IntKind) (zs:List Int):Prop := ∃ t fr,w.heap[g]?=some (.cells (zs.map fun z=>Value.int k z).toArray t fr)
theorem oX {P:Program} {w:World} {g:Nat} {k:IntKind} {zs:List Int} {name:String} (hg:P.globalNamed name=some g) (h:D3 w g k zs):Lib.TabIs P w name k zs:=by
 obtain⟨t,fr,h⟩:=h;unfold Lib.TabIs World.var?;rw[hg];show (match w.heap[g]? with | some (.cells cs _ _)=>some cs | _=>none)=_;rw[h]
theorem oY {P:Program} {w:World} {g:Nat} {k:IntKind} {zs:List Int} {name:String} (hg:P.globalNamed name=some g) (h:Lib.TabIs P w name k zs):D3 w g k zs:=by
 unfold Lib.TabIs World.var? at h;rw[hg] at h;have h:(match w.heap[g]? with | some (.cells cs _ _)=>some cs | _=>none)=some (zs.map fun z=>Value.int k z).toArray:=h;split at h
 ·rename_i cs t fr hb;injection h with h
  exact⟨t,fr,hb.trans (by rw[h])⟩
 ·cases h
def xu (χ:Col) (w:World):Prop := ∀ g,Hg g->χ g=0/\g<w.heap.size/\(∀ cs,w6 g=some cs->∀ (j:Nat) p,cs[j]?=some p->p.Plain/\w.cell? ⟨g,j,none⟩=some p.toV)/\(He g=true->∃ m,w.cell? ⟨g,0,none⟩=some (.int .i64 m))/\(∀ k zs,Hf g=some (k,zs)->D3 w g k zs)
def nr (lo:Nat) (χ:Col) (w:World) (ds:List Deferred):Prop:=ds.Nodup/\∀ d∈ds,∃ D,d = { target := .collected D,args := #[] }/\lo<=D/\D<w.heap.size/\χ D=1/\w.heap[D]?=some (.deferred (some []))
theorem nr.nil {lo:Nat} {χ:Col} {w:World}:nr lo χ w []:=⟨List.nodup_nil,fun d h=>nomatch h⟩
theorem nr.step {lo:Nat} {χ χ':Col} {w w':World} {ds:List Deferred} (h:nr lo χ w ds) (hs:w.heap.size<=w'.heap.size) (hb:∀ b,b<w.heap.size->χ b=1->χ' b=1/\w'.heap[b]?=w.heap[b]?):nr lo χ' w' ds :=
 ⟨h.1,fun d hd=>by
  obtain⟨D,h1,h2,h3,h4,h5⟩:=h.2 d hd;obtain⟨h6,h7⟩:=hb D h3 h4;exact⟨D,h1,h2,Nat.lt_of_lt_of_le h3 hs,h6,h7.trans h5⟩⟩
structure cI (w0:World) (χ0:Col) (T0:Ctx) (s:St) (a:Act) (w:World) (G:Gh):Prop where
 os:w.os=w0.os
 tape:w.tape=w0.tape
 output:w.output=w0.output
 size:w0.heap.size<=w.heap.size
 old:∀ b,b<w0.heap.size -> ¬ T0.T b->w.heap[b]?=w0.heap[b]?
 col:∀ b,b<w0.heap.size -> ¬ T0.T b->G.χ b=χ0 b
 own:∀ b,2<=G.χ b->T0.T b\/w0.heap.size<=b
 pin:∀ o,1000000<=o->G.bl o=T0.bl o/\G.hv o=T0.hv o
 norm:Norm G.χ w
 defers:nr T0.lo G.χ w a.defers
 tms:∀ t,SRd G s.hp w (s.tm t) (a.tmps.getD t undef)
 iA:∀ o h,s.hp o=some h->HRd G s.hp w o h
 Cw:xu χ0 w0/\∀ g,Hg g -> ¬ T0.T g
theorem cI.Af {w0:World} {χ0:Col} {T0:Ctx} {s:St} {a:Act} {w:World} {G:Gh} (r:cI w0 χ0 T0 s a w G):xu G.χ w:=by
 intro g h;obtain⟨h1,h2,h3,h4,h5⟩:=r.Cw.1 g h;have hT:=r.Cw.2 g h;refine⟨(r.col g h2 hT).trans h1,Nat.lt_of_lt_of_le h2 r.size,fun cs hc j p hp=>⟨(h3 cs hc j p hp).1,?_⟩,fun ha=>?_,fun k zs hx=>?_⟩
 ·exact (World.cell?_of_block (w:=w0) (a:=⟨_,_,none⟩) (r.old g h2 hT)).trans (h3 cs hc j p hp).2
 ·obtain⟨m,hm⟩:=h4 ha;exact⟨m,(World.cell?_of_block (w:=w0) (a:=⟨_,_,none⟩) (r.old g h2 hT)).trans hm⟩
 ·obtain⟨t,fr,hb⟩:=h5 k zs hx;exact⟨t,fr,(r.old g h2 hT).trans hb⟩
theorem Act.ji (a:Act) (d:Option Nat) (v:Value):(a.put d v).tmps.size=a.tmps.size:=by cases d <;> simp [Act.put]
theorem Act.Kj (a:Act) (d:Option Nat) (v:Value):(a.put d v).defers=a.defers:=by cases d <;> rfl
theorem Act.Hh (a:Act) (d:Option Nat) (v:Value) (hd:∀ k,d=some k->k<a.tmps.size) (t:Nat):(a.put d v).tmps.getD t undef=if d=some t then v else a.tmps.getD t undef:=by
 cases d with
 | none=>simp [Act.put]
 | some k =>
  have:=hd k rfl;simp only[Act.put,Array.getD_eq_getD_getElem?,Array.getElem?_setIfInBounds,Option.some.injEq];split
  ·subst_vars; simp [this]
  ·rfl
theorem cI.upd {w0:World} {χ0:Col} {T0:Ctx} {s:St} {a:Act} {w w':World} {G G':Gh} {hp':Hp} {T:List Nat} {d:Option Nat} {x:Slot} {v:Value} (r:cI w0 χ0 T0 s a w G)
  (hd:∀ k,d=some k->k<a.tmps.size) (e:Ext G s.hp w G' hp' w') (st:Chg T G.χ w G'.χ w') (hT2:∀ k∈T,2<=k) (hn:Norm G'.χ w')
  (ho:∀ o h,hp' o=some h->(s.hp o=some h/\o+2∉T)\/HRd G' hp' w' o h)
  (hx:SRd G' hp' w' x v):cI w0 χ0 T0 ({ tm:=(s.put d x).tm,hp:=hp' }:St) (a.put d v) w' G':=by
 have h0:0∉T:=fun h=>absurd (hT2 0 h) (by omega);have hfar:∀ b,b<w0.heap.size -> ¬ T0.T b->G.χ b∉T:=fun b hb hT hk=>by
  rcases r.own b (hT2 _ hk) with h | h
  ·exact hT h
  ·omega
 refine⟨st.os.trans r.os,st.tape.trans r.tape,st.output.trans r.output,Nat.le_trans r.size st.size,fun b hb hT=>?_,fun b hb hT=>?_,fun b hb=>?_,fun o ho=>⟨(e.bl o (.inr ho)).trans (r.pin o ho).1,(e.hv o (.inr ho)).trans (r.pin o ho).2⟩,hn,by rw[Act.Kj a d v]; exact r.defers.step st.size fun b hb h1=>⟨(st.col b hb (by rw[h1]; exact fun h=>absurd (hT2 1 h) (by omega))).trans h1,st.block b hb (by rw[h1]; exact fun h=>absurd (hT2 1 h) (by omega))⟩,fun t=>?_,fun o h hh=>?_,r.Cw⟩
 ·exact (st.block b (Nat.lt_of_lt_of_le hb r.size) (hfar b hb hT)).trans (r.old b hb hT)
 ·exact (st.col b (Nat.lt_of_lt_of_le hb r.size) (hfar b hb hT)).trans (r.col b hb hT)
 ·by_cases hb':b<w.heap.size
  ·by_cases hT:G.χ b∈T
   ·exact r.own b (hT2 _ hT)
   ·exact r.own b (by rw[← st.col b hb' hT]; exact hb)
  ·exact .inr (by have:=r.size; omega)
 ·rw[Act.Hh a d v hd];cases d with
  | none=>simpa [St.put] using (r.tms t).ext e
  | some k =>
   simp only[St.put,Lad.upd,Option.some.injEq];by_cases hk:t=k
   ·subst hk; simpa using hx
   ·rw[if_neg hk,if_neg (fun h=>hk h.symm)]; exact (r.tms t).ext e
 ·rcases ho o h hh with⟨h1,h2⟩ | h1
  ·exact (r.iA o h h1).ext e st h2 h0 (by rw[h1]; simp)
  ·exact h1
theorem Ext.refl (G:Gh) (hp:Hp) (w:World):Ext G hp w G hp w:=⟨fun _ h _=>⟨h,rfl⟩,fun _ _=>rfl,fun _ _=>rfl,fun _ h=>h⟩
theorem cI.val {w0:World} {χ0:Col} {T0:Ctx} {s:St} {a:Act} {w:World} {G:Gh} {d:Option Nat} {x:Slot} {v:Value} (r:cI w0 χ0 T0 s a w G)
  (hd:∀ k,d=some k->k<a.tmps.size) (hx:SRd G s.hp w x v):cI w0 χ0 T0 (s.put d x) (a.put d v) w G:=by
 have:=r.upd (d:=d) hd (Ext.refl G s.hp w) (Step.refl [] G.χ w).chg (by simp) r.norm (fun o h hh=>.inl ⟨hh,by simp⟩) hx;cases d <;> exact this
theorem cI.drew {w0:World} {χ0:Col} {T0:Ctx} {s:St} {a:Act} {w:World} {G:Gh} (r:cI w0 χ0 T0 s a w G):cI w0 χ0 T0 s a w.drew G:=by
 have:=r.upd (d:=none) (x := .dead) (v:=undef) (w':=w.drew) (by simp) ⟨fun _ h _=>⟨h,rfl⟩,fun _ _=>rfl,fun _ _=>rfl,fun _ h=>h⟩ (Step.refl [] G.χ w).drew.chg (by simp) r.norm (fun o h hh=>.inl ⟨hh,by simp⟩) trivial;exact this
end Go.Lad
