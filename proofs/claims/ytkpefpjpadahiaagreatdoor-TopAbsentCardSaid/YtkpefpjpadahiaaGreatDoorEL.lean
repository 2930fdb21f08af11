import Derived.Test.YtkpefpjpadahiaaGreatDoorD12
import Derived.Lib.Join
import Derived.Below
import Derived.Lib.Split
import Derived.Lib.SplitLaws
import Derived.Lib.IndexMore
import Derived.Sort.OwnSortedInts
import Derived.Lib.SlicesCompact
import Derived.Lib.SlTrimSet
import Derived.Lib.Fields
set_option linter.unusedVariables false
set_option linter.unusedSimpArgs false
set_option linter.unusedSectionVars false
namespace Go.Lad
open Go.RowKit
end Go.Lad
namespace Go.Lad
open Go.RowKit
def tf (s sep:Bs):Option (List Bs):=cond (Nat.ble s.length 1000000000 && Nat.ble 1 sep.length) (some (Lib.split s sep)) none
noncomputable def wF (f:FuncId):Con:=⟨f,[.c (.v (.d .str)),.c (.v (.d .str))],[],[],[.str,.str],.one (.v (.d (.sl .str))),[],[.sl .str],fun x=>tf x.1 x.2⟩
theorem DA (s sep:Bs):Lib.split s sep=(Lib.splitB (mkS sep) 0 (Lib.countB (mkS s) (mkS sep)) (mkS s)).map (·.data.toList):=by
 rw[Lib.splitB_data,gw,gw];unfold Lib.split;congr 1
theorem Bz (s:ByteArray) (i j:Nat):(s.extract i j).size<=s.size:=by rw[ByteArray.size_extract]; omega
theorem tO (sep:ByteArray):∀ (k:Nat) (s y:ByteArray),y∈Lib.splitB sep 0 k s->y.size<=s.size
 | 0,s,y,h=>by
  rw[Lib.splitB_zero,List.mem_singleton] at h;rw[h]; exact Nat.le_refl _
 | k+1,s,y,h=>by
  unfold Lib.splitB at h;split at h
  ·rw[List.mem_singleton] at h;rw[h]; exact Nat.le_refl _
  ·rcases List.mem_cons.1 h with rfl | h
   ·exact Bz _ _ _
   ·exact Nat.le_trans (tO sep k _ y h) (Bz _ _ _)
theorem Gs {P:Program} {f g:FuncId} {t9:TypeId} (hc:lG P f=true) (hg:He g=true)
  (h1:∀ (s sep:ByteArray) (m:Int) (w:World),s.size<4294967281->w.cell? ⟨g,0,none⟩=some (.int .i64 m)->1<=sep.size ->
   Calls P f #[.string s,.string sep] w fun e w'=>e = .returned (.slice (some ⟨w.heap.size,0,none⟩) (Lib.countB s sep+1) (Lib.countB s sep+1))/\w'=w.alloc (.cells ((Lib.splitB sep 0 (Lib.countB s sep) s).map Value.string).toArray t9)):au P (wF f):=by
 refine⟨hc,fun x r hr=>?_⟩;obtain⟨l,sep⟩:=x;obtain⟨l,rfl⟩:∃ m:Bs,m=l:=⟨l,rfl⟩;obtain⟨sep,rfl⟩:∃ m:Bs,m=sep:=⟨sep,rfl⟩;obtain⟨r,rfl⟩:∃ m:List Bs,m=r:=⟨r,rfl⟩;have hr:tf l sep=some r:=hr;unfold tf at hr;obtain⟨hb,hr⟩:=aG hr;rw[Bool.and_eq_true,il,il,decide_eq_true_eq,decide_eq_true_eq] at hb;injection hr with hr
 show gP P f ⟨[.c (.v (.p (.str (mkS l)))),.c (.v (.p (.str (mkS sep))))],[],.one (.v (.p (.sl (r.map fun x=>[PV.str (mkS x)])))),[]⟩;intro w G vs hnorm hglob hargs _;obtain⟨v0,v1,rfl⟩:∃ v0 v1,vs=[v0,v1]:=by
  have:=hargs.1;match vs,this with
  | [a,b],_=>exact⟨a,b,rfl⟩
 have r0:Rd (In G.χ 0) w (.str (mkS l)) v0:=(hargs.2 0 _ _ rfl rfl:SRd G _ w _ v0).val;have r1:Rd (In G.χ 0) w (.str (mkS sep)) v1:=(hargs.2 1 _ _ rfl rfl:SRd G _ w _ v1).val;have hv0:v0 = .string (mkS l):=by cases r0; rfl
 have hv1:v1 = .string (mkS sep):=by cases r1; rfl
 subst hv0;subst hv1;obtain⟨_,_,_,h4,_⟩:=hglob g (.inr (.inl hg));obtain⟨m,hm⟩:=h4 hg;refine (h1 (mkS l) (mkS sep) m w (by rw[eI]; omega) hm (by rw[eI]; omega)).mono ?_;rintro e w' ⟨rfl,rfl⟩;have hlen:(Lib.splitB (mkS sep) 0 (Lib.countB (mkS l) (mkS sep)) (mkS l)).length=Lib.countB (mkS l) (mkS sep)+1:=Lib.splitB_all _ (by rw[eI]; omega) 0 _ _ rfl;have hle:=Lib.countB_le (mkS sep) (by rw[eI]; omega) _ (mkS l) (Nat.le_refl _);rw[eI] at hle;generalize hps:Lib.splitB (mkS sep) 0 (Lib.countB (mkS l) (mkS sep)) (mkS l)=ps at *
 have hrps:r=ps.map (·.data.toList):=by rw[← hr,DA,hps]
 have hrl:(r.map fun x=>[PV.str (mkS x)]).length=Lib.countB (mkS l) (mkS sep)+1:=by rw[List.length_map,hrps,List.length_map,hlen]
 have bel:Below w.heap.size w (w.alloc (.cells (ps.map Value.string).toArray t9)):=(Below.refl _ w).alloc (Nat.le_refl _) _;rw[← hrl];refine⟨G,_,[_],rfl,rfl,bel.os,bel.tape,bel.output,bel.size,fun b hb _=>⟨bel.block b hb,rfl⟩,fun b hb=>.inl hb,fun _ _=>⟨rfl,rfl⟩,fun b hb=>hnorm b (Nat.le_trans bel.size hb),⟨rfl,fun i x v hx hv=>?_⟩,(fun o h ho=>by cases ho)⟩;cases i with
 | succ i=>simp [Rz.eH] at hx
 | zero =>
  simp [Rz.eH] at hx hv;subst hx hv;refine⟨rfl,by simp [aJ.ids],?_⟩;have hsz:∀ y∈ps,y.size<=9223372036854775807:=fun y hy=>by
   rw[← hps] at hy;have:=tO _ _ _ y hy;rw[eI] at this;omega
  have hlt:w.heap.size<(w.alloc (.cells (ps.map Value.string).toArray t9)).heap.size:=by simp
  have hne:(r.map fun x=>[PV.str (mkS x)])≠[]:=fun e=>by rw[e] at hrl; simp at hrl
  have hps2:∀ i (x:Bs),r[i]?=some x->∃ y,ps[i]?=some y/\y=mkS x:=fun i x hi=>by
   rw[hrps,List.getElem?_map,Option.map_eq_some_iff] at hi;obtain⟨y,hy,rfl⟩:=hi;exact⟨y,hy,rfl⟩
  suffices key:Rd (In G.χ 0) (w.alloc (.cells (ps.map Value.string).toArray t9)) (.sl (r.map fun x=>[PV.str (mkS x)])) (.slice (some ⟨w.heap.size,0,none⟩) (r.map fun x=>[PV.str (mkS x)]).length (r.map fun x=>[PV.str (mkS x)]).length) by rw[List.length_map] at key; exact key
  refine Rd.sl (z:=1) (fun i _=>.string (ps.getD i ByteArray.empty)) (b:=w.heap.size) (off:=0) hne (hnorm _ (Nat.le_refl _)) hlt (Nat.le_refl _) (by rw[hrl]; omega) (fun i cs hi=>?_) (fun i j cs p hi hj=>?_) (fun i j cs p hi hj=>?_)
  ·rw[List.getElem?_map,Option.map_eq_some_iff] at hi;obtain⟨c,_,rfl⟩:=hi;rfl
  ·rw[List.getElem?_map,Option.map_eq_some_iff] at hi;obtain⟨c,hc,rfl⟩:=hi;obtain⟨y,hy,_⟩:=hps2 i c hc;cases j with
   | zero =>
    rw[Nat.zero_add,Nat.mul_one,Nat.add_zero,List.getD_eq_getElem?_getD,hy];have hh:(w.alloc (.cells (ps.map Value.string).toArray t9)).heap[w.heap.size]?=some (.cells (ps.map Value.string).toArray t9):=by simp [World.alloc,-World.alloc_eq]
    unfold World.cell?;rw[hh];simp [hy]
   | succ j=>simp at hj
  ·rw[List.getElem?_map,Option.map_eq_some_iff] at hi;obtain⟨c,hc,rfl⟩:=hi;obtain⟨y,hy,rfl⟩:=hps2 i c hc;cases j with
   | zero =>
    simp at hj;subst hj;rw[List.getD_eq_getElem?_getD,hy];exact .str (hsz _ (List.mem_of_getElem? hy))
   | succ j=>simp at hj
end Go.Lad
namespace Go.Lad
open Go.RowKit
def nN (s sub:Bs):Option Bool:=cond (Nat.ble s.length 1000000000) (some (Lib.contains s sub)) none
noncomputable def pB (f:FuncId):Con:=⟨f,[.c (.v (.d .str)),.c (.v (.d .str))],[],[],[.str,.str],.one (.v (.d .bool)),[],[.bool],fun x=>nN x.1 x.2⟩
theorem zw {P:Program} {f g:FuncId} (hc:lG P f=true) (hg:He g=true)
  (h1:∀ (s sub:ByteArray) (m:Int) (w:World),s.size<4294967281->w.cell? ⟨g,0,none⟩=some (.int .i64 m) ->
   Calls P f #[.string s,.string sub] w fun e w'=>e = .returned (.bool (Lib.contains s.data.toList sub.data.toList))/\w'=w):au P (pB f):=by
 refine⟨hc,fun x r hr=>?_⟩;obtain⟨l,sep⟩:=x;obtain⟨l,rfl⟩:∃ m:Bs,m=l:=⟨l,rfl⟩;obtain⟨sep,rfl⟩:∃ m:Bs,m=sep:=⟨sep,rfl⟩;obtain⟨r,rfl⟩:∃ m:Bool,m=r:=⟨r,rfl⟩;have hr:nN l sep=some r:=hr;unfold nN at hr;obtain⟨hb,hr⟩:=aG hr;rw[il,decide_eq_true_eq] at hb;injection hr with hr
 show gP P f ⟨[.c (.v (.p (.str (mkS l)))),.c (.v (.p (.str (mkS sep))))],[],.one (.v (.p (.bool r))),[]⟩;intro w G vs hnorm hglob hargs _;obtain⟨v0,v1,rfl⟩:∃ v0 v1,vs=[v0,v1]:=by
  have:=hargs.1;match vs,this with
  | [a,b],_=>exact⟨a,b,rfl⟩
 have r0:Rd (In G.χ 0) w (.str (mkS l)) v0:=(hargs.2 0 _ _ rfl rfl:SRd G _ w _ v0).val;have r1:Rd (In G.χ 0) w (.str (mkS sep)) v1:=(hargs.2 1 _ _ rfl rfl:SRd G _ w _ v1).val;have hv0:v0 = .string (mkS l):=by cases r0; rfl
 have hv1:v1 = .string (mkS sep):=by cases r1; rfl
 subst hv0;subst hv1;obtain⟨_,_,_,h4,_⟩:=hglob g (.inr (.inl hg));obtain⟨m,hm⟩:=h4 hg;refine (h1 (mkS l) (mkS sep) m w (by rw[eI]; omega) hm).mono ?_;rintro e w' ⟨rfl,rfl⟩;rw[gw,gw,hr];refine⟨G,_,[_],rfl,rfl,rfl,rfl,rfl,Nat.le_refl _,fun b hb _=>⟨rfl,rfl⟩,fun b hb=>.inl hb,fun _ _=>⟨rfl,rfl⟩,hnorm,⟨rfl,fun i x v hx hv=>?_⟩,(fun o h ho=>by cases ho)⟩;cases i with
 | succ i=>simp [Rz.eH] at hx
 | zero =>
  simp [Rz.eH] at hx hv;subst hx hv;exact⟨rfl,by simp [aJ.ids],Rd.bool⟩
end Go.Lad
namespace Go.Lad
open Go.RowKit
abbrev encI (x:Int):Value := .int .i64 x
def ints (l:List Int):List (List PV):=l.map fun x=>[PV.int .i64 x]
def aft (w:World) (q g off:Nat) (d:List Int) (os:Array Obj):World:=Sort.grow (Sort.putRow encI (Sort.ahead w q) g off d.toArray) os
section
variable {w:World} {q g off:Nat} {d:List Int} {os:Array Obj}
theorem Gt (w:World):Sort.grow w #[]=w:=by cases w; simp [Sort.grow]
theorem I4:Sort.putRow encI (Sort.ahead w q) g off d.toArray=aft w q g off d #[]:=by
 unfold aft; rw[Gt]
theorem I5:w.heap.size<=(aft w q g off d os).heap.size:=by simp [aft,Sort.grow,Sort.putRow,Sort.mapBlock,Sort.ahead]
theorem Lt {cur:Array Value} {e:TypeId} {fr:Nat×Nat} (hb:w.heap[g]?=some (.cells cur e fr)):(aft w q g off d os).heap[g]?=some (.cells (Sort.putCells encI off d.toArray cur) e fr):=by
 have hg:g<w.heap.size:=(Array.getElem?_eq_some_iff.1 hb).1;unfold aft;rw[Sort.heap_grow_old _ _ (by simpa [Sort.putRow,Sort.mapBlock,Sort.ahead] using hg)];simp [Sort.putRow,Sort.mapBlock,Sort.ahead,Array.getElem?_modify,hb,Sort.onCells]
theorem Lu {cur:Array Value} {e:TypeId} (hb:iC w g cur e):iC (aft w q g off d os) g (Sort.putCells encI off d.toArray cur) e:=by
 obtain⟨fr,h1,h2⟩:=hb;exact⟨fr,Lt h1,by rw[show (Sort.putCells encI off d.toArray cur).size=cur.size by simp [Sort.putCells]]; exact h2⟩
theorem DB {w:World} {g:Nat} {cur:Array Value} {e:TypeId} (hb:iC w g cur e) (i:Nat):w.frozen? ⟨g,i,none⟩=false:=by
 obtain⟨⟨lo,hi⟩,h1,h2⟩:=hb;simp only[World.frozen?,h1,Bool.and_eq_false_iff,decide_eq_false_iff_not];rcases h2 with h2 | ⟨_,h2⟩
 ·simp only at h2; omega
 ·cases h2
theorem Gu {b:Nat} (hb:b<w.heap.size) (hne:g≠b):(aft w q g off d os).heap[b]?=w.heap[b]? := by
 unfold aft;rw[Sort.heap_grow_old _ _ (by simpa [Sort.putRow,Sort.mapBlock,Sort.ahead] using hb)];simp [Sort.putRow,Sort.mapBlock,Sort.ahead,Array.getElem?_modify,hne]
theorem Gv {cur:Array Value} {n:Nat} (hn:n<=d.length) (h:off+d.length<=cur.size):((Sort.putCells encI off d.toArray cur).toList.drop off).take n=(d.take n).map encI:=by
 apply List.ext_getElem?;intro j;by_cases hj:j<n
 ·rw[List.getElem?_take_of_lt hj,List.getElem?_drop,Array.getElem?_toList,List.getElem?_map,List.getElem?_take_of_lt hj];have h1:off+j<cur.size:=by omega
  have h2:j<d.length:=by omega
  simp [Sort.putCells,h1,h2,show off+j<off+d.length by omega]
 ·rw[List.getElem?_take_eq_none (by omega),List.getElem?_eq_none (by simp; omega)]
end
section
variable {w:World} {k e:Nat} {χ:Col} {v:Value} {l:List Int}
theorem zx {F:Nat->Prop} {w:World} {k:IntKind} {n:Int} {v:Value} (h:Rd F w (.int k n) v):v = .int k n/\inK k n:=by cases h; exact⟨rfl,by assumption⟩
theorem ints_at {l:List Int} {j:Nat} (hj:j<l.length):(ints l)[j]?=some [PV.int .i64 l[j]]:=by unfold ints; rw[List.getElem?_map,List.getElem?_eq_getElem hj]; rfl
theorem I6 (g off j:Nat):(⟨g,off,none⟩:Addr).add j=⟨g,off+j,none⟩:=by
 unfold Addr.add;split
 ·rename_i h; subst h; rfl
 ·rfl
theorem BA (h:Own (α:=CZ 1) k χ e w v (ints l)) :
  (v = .slice none 0 0/\l=[])\/∃ g cap cur off,v = .slice (some ⟨g,off,none⟩) l.length cap/\g<w.heap.size/\χ g=k/\iC w g cur e/\l.length<=cap/\cap<=maxLen/\off+cap<=cur.size/\Sort.Holds encI w g off l.toArray/\∀ x∈l,inK .i64 x:=by
 obtain⟨xs,hor,hrd⟩:=h.ex;have hlen:List.length (α:=CZ 1) (ints l)=l.length:=by show List.length (α:=List PV) (ints l)=_; unfold ints; simp
 have hxl:xs.length=l.length:=by
  have:=hor.1;rw[show aN.sz (CZ 1)=1 from rfl,Nat.mul_one] at this;exact this.trans hlen
 rcases hor.2 with⟨hv,hn⟩ | ⟨g,cap,cur,off,hv,_,hb,hnc,hm,hsz,hxs⟩
 ·exact .inl ⟨hv,List.eq_nil_of_length_eq_zero (by rw[← hlen]; exact hn)⟩
 ·refine .inr ⟨g,cap,cur,off,by rw[hv]; congr 1,hb.lt,h.col g (by rw[hv]; rfl),hb,by rw[← hlen]; exact hnc,hm,by rw[show aN.sz (CZ 1)=1 from rfl,Nat.mul_one] at hsz; exact hsz,?_,?_⟩
  ·intro j hj;have hj:j<l.length:=by simpa using hj
   have hrow:=hrd j _ (ints_at hj);obtain⟨_,hR⟩:=hrow;have hch:chunk (aN.sz (CZ 1)) j xs=[xs[j]'(by omega)]:=by
    show (xs.drop (j * 1)).take 1=_;rw[Nat.mul_one,List.drop_eq_getElem_cons (by omega)]; rfl
   rw[hch] at hR;have hv1:=hR.2 0 _ _ rfl rfl;have hxj:xs[j]'(by omega)=encI l[j]:=(zx hv1).1;have hcell:=iQ.cells hor (g:=g) (by rw[hv]; rfl) j (xs[j]'(by omega)) (List.getElem?_eq_getElem (by omega));refine⟨?_,DB hb _⟩;have ho:mu v=off:=by rw[hv]; rfl
   rw[hxj,ho,I6] at hcell;rw[hcell];simp [hj]
  ·intro x hx;obtain⟨j,hj,rfl⟩:=List.mem_iff_getElem.1 hx;have hrow:=hrd j _ (ints_at hj);obtain⟨_,hR⟩:=hrow;have hch:chunk (aN.sz (CZ 1)) j xs=[xs[j]'(by omega)]:=by
    show (xs.drop (j * 1)).take 1=_;rw[Nat.mul_one,List.drop_eq_getElem_cons (by omega)]; rfl
   rw[hch] at hR;exact (zx (hR.2 0 _ _ rfl rfl)).2
theorem Lv {q g off cap:Nat} {cur:Array Value} {os:Array Obj} {χ':Col} {k':Nat} {l' pad:List Int} (hb:iC w g cur e) (hc:(l'++pad).length<=cap) (hm:cap<=maxLen) (hs:off+cap<=cur.size) (hk:χ' g=k') (hi:∀ x∈l',inK .i64 x) :
  Own (α:=CZ 1) k' χ' e (aft w q g off (l'++pad) os) (.slice (some ⟨g,off,none⟩) l'.length cap) (ints l'):=by
 have hlen:List.length (α:=CZ 1) (ints l')=l'.length:=by show List.length (α:=List PV) (ints l')=_; unfold ints; simp
 have hll:l'.length<=(l'++pad).length:=by simp
 refine⟨⟨l'.map encI,⟨by rw[List.length_map,hlen]; show _=_ * 1; omega,.inr ⟨g,cap,_,off,by rw[hlen],Nat.zero_le _,Lu hb,by rw[hlen]; omega,hm,?_,?_⟩⟩,fun j row hj=>?_⟩,fun b hb'=>?_⟩
 ·show off+cap * 1<=_;simp [Sort.putCells]; omega
 ·rw[hlen,show aN.sz (CZ 1)=1 from rfl,Nat.mul_one,Gv hll (by omega),List.take_append_of_le_length (Nat.le_refl _),List.take_length]
 ·have hj:(l'.map fun x=>[PV.int .i64 x])[j]?=some (show List PV from row):=hj;rw[List.getElem?_map,Option.map_eq_some_iff] at hj;obtain⟨x,hx,rfl⟩:=hj;obtain⟨hjl,hxe⟩:=List.getElem?_eq_some_iff.1 hx;have hch:chunk (aN.sz (CZ 1)) j (l'.map encI)=[encI x]:=by
   show ((l'.map encI).drop (j * 1)).take 1=_;rw[Nat.mul_one,List.drop_eq_getElem_cons (by rw[List.length_map]; exact hjl),List.getElem_map,hxe]; rfl
  rw[hch];refine⟨rfl,rfl,fun i p u hp hu=>?_⟩;cases i with
  | zero =>
   simp at hp hu;subst hp hu;exact .int (hi x (hxe ▸ List.getElem_mem hjl))
  | succ i=>simp at hp
 ·simp [Value.ownBlock] at hb';subst hb'; exact hk
end
theorem DC {P:Program} {f:FuncId} {e:TypeId} {l r:List Int} {as:List Slot} (has:∀ (G:Gh) (hp:Hp) (w:World) (vs:List Value),eu (SRd G hp w) as vs->∀ x∈as.zip vs,True)
  {H:List Value->Prop}
  (hcall:∀ (w:World) (v:Value) (us:List Value) (G:Gh) (hp:Hp),eu (SRd G hp w) as us->∀ (χ:Col),Own (α:=CZ 1) 1000002 χ e w v (ints l) ->
   Calls P f (v::us).toArray w fun en w'=>(en = .returned v/\w'=w/\r=l)\/∃ g cap cur off q pad,v = .slice (some ⟨g,off,none⟩) l.length cap/\g<w.heap.size/\iC w g cur e/\cap<=maxLen/\off+cap<=cur.size/\en = .returned (.slice (some ⟨g,off,none⟩) r.length cap)/\w'=aft w q g off (r++pad) #[]/\(r++pad).length<=cap/\∀ x∈r,inK .i64 x) :
  gP P f ⟨.c (.v (.own 1000000))::as,[(1000000,.arr e 1 (ints l))],.one (.v (.own 0)),[(0,.arr e 1 (ints r)),(1000000,.gone)]⟩:=by
 intro w G vs hnorm hglob hargs hobjs;obtain⟨v0,us,rfl⟩:∃ v0 us,vs=v0::us:=by
  have:=hargs.1;match vs,this with
  | a::l,_=>exact⟨a,l,rfl⟩
 have hv0:v0=G.hv 1000000:=(hargs.2 0 _ _ rfl rfl:SRd G _ w _ v0).val;obtain⟨hown,hbl⟩:=hobjs 1000000 _ rfl;have hown:Own (α:=CZ 1) 1000002 G.χ e w v0 (ints l):=by rw[hv0]; exact hown
 have hus:eu (SRd G (hpL [(1000000,.arr e 1 (ints l))]) w) as us:=⟨by have:=hargs.1; simpa using this,fun i a b ha hb=>hargs.2 (i+1) a b (by simpa using ha) (by simpa using hb)⟩;refine (hcall w v0 us G _ hus G.χ hown).mono ?_;have hG:∀ (w':World) (v':Value),w'.os=w.os->w'.tape=w.tape->w'.output=w.output->w.heap.size<=w'.heap.size->(∀ b,b<w.heap.size->v0.ownBlock≠some b->w'.heap[b]?=w.heap[b]?)->v'.ownBlock=v0.ownBlock->v'.oneCell'=true ->
   (∀ χ':Col,(∀ g,v0.ownBlock=some g->χ' g=2)->(∀ b,χ' b=0↔G.χ b=0)->Own (α:=CZ 1) 2 χ' e w' v' (ints r)) ->
   ∃ (G':Gh) (v:Value) (us:List Value),Ending.returned v' = .returned v/\(Rz.one (.v (.own 0))).val v us/\w'.os=w.os/\w'.tape=w.tape/\w'.output=w.output/\w.heap.size<=w'.heap.size /\
   (∀ b,b<w.heap.size->G.χ b<=1->w'.heap[b]?=w.heap[b]?/\G'.χ b=G.χ b)/\(∀ b,2<=G'.χ b->2<=G.χ b\/w.heap.size<=b)/\(∀ o,1000000<=o->G'.bl o=G.bl o/\G'.hv o=G.hv o)/\Norm G'.χ w' /\
   eu (CRd G' (hpL [(0,.arr e 1 (ints r)),(1000000,.gone)]) w') (Rz.one (.v (.own 0))).eH us/\(∀ o h,hpL [(0,.arr e 1 (ints r)),(1000000,.gone)] o=some h->HRd G' (hpL [(0,.arr e 1 (ints r)),(1000000,.gone)]) w' o h):=by
  intro w' v' c1 c2 c3 c4 c5 c6 c7 c8;have hcolb:∀ g,v0.ownBlock=some g->G.χ g=1000002:=hown.col;refine⟨⟨fun b=>if v0.ownBlock=some b then 2 else G.χ b,fun o=>if o=0 then v0.ownBlock.getD 0 else G.bl o,fun o=>if o=0 then v' else G.hv o⟩,v',[v'],rfl,rfl,c1,c2,c3,c4,fun b hb hχ=>?_,fun b hb=>?_,fun o ho=>⟨if_neg (by omega),if_neg (by omega)⟩,fun b hb=>?_,⟨rfl,fun i x v hx hv=>?_⟩,fun o h ho=>?_⟩
  ·have hne:v0.ownBlock≠some b:=fun e=>by have:=hcolb b e; omega
   exact⟨c5 b hb hne,if_neg hne⟩
  ·dsimp only at hb;split at hb
   ·rename_i he;exact .inl (by have:=hcolb b he; omega)
   ·exact .inl hb
  ·dsimp only;split
   ·rename_i he;have h1:=hcolb b he;have h2:=hnorm b (Nat.le_trans c4 hb);rw[h1] at h2;exact absurd h2 (by decide)
   ·exact hnorm b (Nat.le_trans c4 hb)
  ·cases i with
   | succ i=>simp [Rz.eH] at hx
   | zero =>
    simp [Rz.eH] at hx hv;subst hx hv;exact⟨c7,by simp [aJ.ids,hpL,aq],by simp [LVal]⟩
  ·simp only[hpL,aq] at ho;split at ho
   ·rename_i he;have he:o=0:=by simpa using he
    subst he;injection ho with ho
    subst ho;refine⟨?_,fun b hb'=>?_⟩
    ·show Own (α:=CZ 1) 2 _ e w' (if (0:Nat)=0 then v' else G.hv 0) (ints r);rw[if_pos rfl];refine c8 _ (fun g hg=>if_pos hg) fun b=>?_;dsimp only;split
     ·rename_i he;have:=hcolb b he;rw[this];exact⟨fun h=>absurd h (by decide),fun h=>absurd h (by decide)⟩
     ·exact Iff.rfl
    ·have hb':(if (0:Nat)=0 then v' else G.hv 0).ownBlock=some b:=hb';rw[if_pos rfl,c6] at hb';show b=if (0:Nat)=0 then v0.ownBlock.getD 0 else G.bl 0
     rw[if_pos rfl,hb']; rfl
   ·split at ho
    ·injection ho with ho
     subst ho;trivial
    ·cases ho
 rintro en w' (⟨rfl,rfl,rfl⟩ | ⟨g,cap,cur,off,q,pad,hv,hg,hbk,hm,hs,rfl,rfl,hpl,hin⟩)
 ·refine hG w' v0 rfl rfl rfl (Nat.le_refl _) (fun b _ _=>rfl) rfl ?_ fun χ' h1 h2=>?_
  ·rcases BA hown with⟨hv,_⟩ | ⟨_,_,_,_,hv,_⟩ <;> rw[hv] <;> rfl
  ·refine⟨?_,h1⟩;obtain⟨xs,hor,hrd⟩:=hown.ex;refine⟨xs,hor,fun i x hx=>?_⟩;have:=hrd i x hx;exact⟨this.1,this.2.frame fun b hb hlt=>⟨(h2 b).2 hb,rfl⟩⟩
 ·refine hG _ _ rfl rfl rfl I5 (fun b hb hne=>Gu hb (fun e=>hne (by rw[hv,e]; rfl))) (by rw[hv]; rfl) rfl fun χ' h1 h2=>?_;exact Lv hbk hpl hm hs (h1 g (by rw[hv]; rfl)) hin
theorem BB {l:List Int} {x:Int} (h:x∈Lib.compact l):x∈l:=by
 unfold Lib.compact Lib.compactUpTo at h;obtain⟨i,hi,rfl⟩:=List.mem_map.1 h;have hi:=List.mem_range.1 (List.mem_filter.1 hi).1;simp [hi]
theorem BC (l:List Int):(Lib.compact l).length<=l.length:=by
 unfold Lib.compact Lib.compactUpTo;rw[List.length_map];exact Nat.le_trans (List.length_filter_le _ _) (by simp)
def ET (l:List Int):Option (List Int):=cond (Nat.ble l.length 4000000000) (some (Lib.compact l)) none
noncomputable def rT (f:FuncId) (e:TypeId):Con:=⟨f,[.c (.v (.own 1000000))],[],[(1000000,.arr e (.int .i64))],[.sl (.int .i64)],.one (.v (.own 0)),[(0,.arr e (.int .i64)),(1000000,.gone)],[.sl (.int .i64)],fun l=>ET l⟩
theorem I7 {P:Program} {f:FuncId} {e:TypeId} (hc:lG P f=true)
  (h1:∀ (blk off cap:Nat) (zs:List Int) (w:World),Sort.Holds (Value.int .i64) w blk off zs.toArray->zs.length<=9223372036854775807->zs.length<=cap ->
   Calls P f #[.slice (some ⟨blk,off,none⟩) zs.length cap] w fun e w'=>e = .returned (.slice (some ⟨blk,off,none⟩) (Lib.compact zs).length cap)/\∃ q,w'=Sort.putRow (Value.int .i64) (Sort.ahead w q) blk off (Lib.compact zs++List.replicate (zs.length-(Lib.compact zs).length) 0).toArray)
  (h0:∀ (a:Option Addr) (cap:Nat) (w:World),Calls P f #[.slice a 0 cap] w fun e w'=>e = .returned (.slice a 0 cap)/\w'=w):au P (rT f e):=by
 refine⟨hc,fun x r hr=>?_⟩;obtain⟨l,rfl⟩:∃ m:List Int,m=x:=⟨x,rfl⟩;obtain⟨r,rfl⟩:∃ m:List Int,m=r:=⟨r,rfl⟩;have hr:ET l=some r:=hr;unfold ET at hr;obtain⟨hb,hr⟩:=aG hr;rw[il,decide_eq_true_eq] at hb;injection hr with hr
 have hcl:=BC l;have key:gP P f ⟨[.c (.v (.own 1000000))],[(1000000,.arr e 1 (ints l))],.one (.v (.own 0)),[(0,.arr e 1 (ints r)),(1000000,.gone)]⟩:=by
  refine DC (H:=fun _=>True) (fun _ _ _ _ _ _ _=>trivial) fun w v us G hp hus χ hown=>?_;have hu:us=[]:=by
   have:=hus.1;match us,this with
   | [],_=>rfl
  subst hu;rcases BA hown with⟨hv,hl⟩ | ⟨g,cap,cur,off,hv,hg,hcol,hbk,hnc,hm,hs,hH,hin⟩
  ·rw[hv];refine (h0 none 0 w).mono ?_;rintro en w' ⟨rfl,rfl⟩;refine .inl ⟨rfl,rfl,?_⟩;rw[← hr,hl]; rfl
  ·rw[hv];refine (h1 g off cap l w hH (by omega) hnc).mono ?_;rintro en w' ⟨rfl,q,rfl⟩;rw[hr] at hcl ⊢;refine .inr ⟨g,cap,cur,off,q,List.replicate (l.length-r.length) 0,rfl,hg,hbk,hm,hs,rfl,I4,by rw[List.length_append,List.length_replicate]; omega,fun x hx=>hin x (BB (by rw[hr]; exact hx))⟩
 have hl:∀ l:List Int,jE (.int .i64) ⟨.sl (.int .i64),l⟩=l:=fun l=>mK (t := .int .i64) l;have e1:(rT f e).spec l r=⟨[.c (.v (.own 1000000))],[(1000000,.arr e 1 (ints l))],.one (.v (.own 0)),[(0,.arr e 1 (ints r)),(1000000,.gone)]⟩:=by
  show nw.mk _ [(1000000,cV.un (.arr e (.int .i64) (jE (.int .i64) ⟨.sl (.int .i64),l⟩)))] _ [(0,cV.un (.arr e (.int .i64) (jE (.int .i64) ⟨.sl (.int .i64),r⟩))),(1000000,.gone)]=_;rw[hl,hl];rfl
 show gP P f ((rT f e).spec l r);rw[e1];exact key
end Go.Lad
namespace Go.Lad
open Go.RowKit
def rU (c:UInt8):Bool:=(Nat.ble 97 c.toNat && Nat.ble c.toNat 122) || (Nat.ble 48 c.toNat && Nat.ble c.toNat 57) || Nat.beq c.toNat 45 || Nat.beq c.toNat 46
def mN (s:Bs):Bool:=Nat.ble s.length 20 && !decide (s=[97,110,100]) && !decide (s=[111,114]) && (match s with | c::_=>Nat.ble 97 c.toNat && Nat.ble c.toNat 122 | []=>false) && s.all rU
def BD (s cs:Bs):Option Bs:=cond (cs.all (fun c=>Nat.blt c.toNat 128) && Nat.ble cs.length 1000000) (some (Lib.trimS s cs)) none
noncomputable def EU (f:FuncId):Con:=⟨f,[.c (.v (.d .str)),.c (.v (.d .str))],[],[],[.str,.str],.one (.v (.d .str)),[],[.str],fun x=>BD x.1 x.2⟩
def wG (s:Bs):Option Bool:=cond (s.all rU) (some false) none
noncomputable def BE (f g:FuncId):Con:=⟨f,[.c (.v (.d .str)),.c (.v (.fn (2 * g) []))],[],[],[.str],.one (.v (.d .bool)),[],[.bool],fun s=>wG s⟩
def rpl:List Bs:=[[40],[32,40,32],[41],[32,41,32]]
def rp1 (c:UInt8):Bs:=cond (Nat.beq c.toNat 40) [32,40,32] (cond (Nat.beq c.toNat 41) [32,41,32] [c])
def BF (a b:Int) (l:List Bs) (s:Bs):Option Bs:=cond (decide (a=0/\b=0/\l=rpl) && Nat.ble s.length 1000000) (some (s.flatMap rp1)) none
abbrev N6 (t:TypeId):OSh := .box t [.d (.int .u32),.d (.int .i32),.d (.int .u32),.dead,.d (.sl .str)]
noncomputable def EV (f:FuncId) (t:TypeId):Con:=⟨f,[.c (.v (.loc 1000000 0)),.c (.v (.d .str))],[],[(1000000,N6 t)],[.str,.int .u32,.int .i32,.int .u32,.sl .str],.one (.v (.d .str)),[(1000000,.gone)],[.str],fun x=>BF x.2.1 x.2.2.1 x.2.2.2.2 x.1⟩
def mh:Nat->Nat->Bs
 | 0,_=>[]
 | k+1,u=>cond (Nat.blt u 10) [UInt8.ofNat (48+u)] (mh k (u / 10)++[UInt8.ofNat (48+u % 10)])
def EW (n:Int):Option Bs:=match n with
 | .ofNat u=>cond (Nat.ble u 9223372036854775807) (some (mh 20 u)) none
 | .negSucc _=>none
noncomputable def EX (f:FuncId):Con:=⟨f,[.c (.v (.d (.int .i64)))],[],[],[.int .i64],.one (.v (.d .str)),[],[.str],fun n=>EW n⟩
def qV:Nat->Bs->Option Nat
 | a,[]=>some a
 | a,c::r=>cond (Nat.ble 48 c.toNat && Nat.ble c.toNat 57) (qV (a * 10+(c.toNat-48)) r) none
def yk (s:Bs):Option Int:=match s with
 | []=>none
 | _=>cond (Nat.ble s.length 18) ((qV 0 s).map Int.ofNat) none
noncomputable def EY (f:FuncId):Con:=⟨f,[.c (.v (.d .str))],[],[],[.str],.tup [.v (.d (.int .i64)),.v .ni],[],[.int .i64],fun s=>yk s⟩
def BG:Bs->Nat->Nat->Int
 | [],_,_=>-1
 | b::l,c,i=>cond (Nat.beq b.toNat c) (i:Int) (BG l c (i+1))
def oG (s:Bs) (c:Int):Option Int:=some (BG s c.toNat 0)
noncomputable def rV (f:FuncId):Con:=⟨f,[.c (.v (.d .str)),.c (.v (.d (.int .u8)))],[],[],[.str,.int .u8],.one (.v (.d (.int .i64))),[],[.int .i64],fun x=>oG x.1 x.2⟩
def uA (s:Bs):Option (List Bs):=cond (s.all (fun c=>Nat.blt c.toNat 128) && Nat.ble s.length 1000000) (some (Lib.fields s)) none
noncomputable def yl (f:FuncId):Con:=⟨f,[.c (.v (.d .str))],[],[],[.str],.one (.v (.d (.sl .str))),[],[.sl .str],fun s=>uA s⟩
def Lw:Nat->Nat->Nat
 | 0,_=>0
 | k+1,u=>cond (Nat.beq u 0) 0 (Lw k (u / 2)+1)
def rW (n:Int):Option Int:=match n with
 | .ofNat u=>cond (Nat.ble u 255) (some (Lw 8 u:Nat)) none
 | .negSucc _=>none
noncomputable def wH (f:FuncId):Con:=⟨f,[.c (.v (.d (.int .u64)))],[],[],[.int .u64],.one (.v (.d (.int .i64))),[],[.int .i64],fun n=>rW n⟩
def qy (l:List Int):Option Bs:=cond (Nat.blt 0 l.length && l.all (fun n=>match n with | .ofNat u=>Nat.ble u 255 | _=>false) && Nat.ble l.length 2147483647) (some (l.map fun n=>UInt8.ofNat n.toNat)) none
noncomputable def MY (f:FuncId) (t:TypeId):Con:=⟨f,[.c (.v (.loc 1000000 0))],[],[(1000000,.box t [.ps 1000000,.nil])],[],.tup [],[(1000000,.box t [.ps 1000000,.nil])],[],fun _=>some ()⟩
noncomputable def Lx (f:FuncId) (t e:TypeId):Con:=⟨f,[.c (.v (.loc 1000000 0))],[],[(1000000,.box t [.ps 1000000,.own 1000001]),(1000001,.arr e (.int .u8))],[.sl (.int .u8)],.tup [],[(1000000,.box t [.ps 1000000,.own 1000001]),(1000001,.arr e (.int .u8))],[.sl (.int .u8)],fun l=>some l⟩
noncomputable def EZ (f:FuncId) (t e:TypeId):Con:=⟨f,[.c (.v (.loc 1000000 0))],[],[(1000000,.box t [.ps 1000000,.own 1000001,.d .bool]),(1000001,.arr e (.int .u8))],[.bool,.sl (.int .u8)],.tup [],[(1000000,.box t [.ps 1000000,.own 1000001,.d .bool]),(1000001,.arr e (.int .u8))],[.bool,.sl (.int .u8)],fun x=>some x⟩
noncomputable def Ly (f:FuncId) (t e:TypeId):Con:=⟨f,[.c (.v (.loc 1000000 0))],[],[(1000000,.box t [.ps 1000000,.own 1000001]),(1000001,.arr e (.int .u8))],[.sl (.int .u8)],.one (.v (.d .str)),[(1000000,.gone),(1000001,.gone)],[.str],fun l=>qy l⟩
noncomputable def E0 (f:FuncId) (t e:TypeId):Con:=⟨f,[.c (.v (.loc 1000000 0))],[],[(1000000,.box t [.ps 1000000,.own 1000001,.d .bool]),(1000001,.arr e (.int .u8))],[.bool,.sl (.int .u8)],.one (.v (.d .str)),[(1000000,.gone),(1000001,.gone)],[.str],fun x=>qy x.2⟩
end Go.Lad
