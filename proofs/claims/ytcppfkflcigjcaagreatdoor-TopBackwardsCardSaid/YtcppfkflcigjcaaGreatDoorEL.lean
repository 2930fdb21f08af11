import Derived.Test.YtcppfkflcigjcaaGreatDoorFJ
import Derived.Lib.Join
import Derived.Below
import Derived.Lib.Split
import Derived.Lib.SplitLaws
import Derived.Lib.IndexMore
import Derived.Sort.OwnSortedInts
import Derived.Lib.SlicesCompact
import Derived.Lib.SlTrimSet
import Derived.Lib.Fields
set_option linter.unusedVariables false
set_option linter.unusedSimpArgs false
set_option linter.unusedSectionVars false
namespace Go.Lad
open Go.RowKit
end Go.Lad
namespace Go.Lad
open Go.RowKit
def BL (s sep:Bs):Option (List Bs):=cond (Nat.ble s.length 1000000000 && Nat.ble 1 sep.length) (some (Lib.split s sep)) none
noncomputable def yC (f:FuncId):Con:=⟨f,[.c (.v (.d .str)),.c (.v (.d .str))],[],[],[.str,.str],.one (.v (.d (.sl .str))),[],[.sl .str],fun x=>BL x.1 x.2⟩
theorem Fy (s sep:Bs):Lib.split s sep=(Lib.splitB (mkS sep) 0 (Lib.countB (mkS s) (mkS sep)) (mkS s)).map (·.data.toList):=by
 rw[Lib.splitB_data,iW,iW];unfold Lib.split;congr 1
theorem DB (s:ByteArray) (i j:Nat):(s.extract i j).size<=s.size:=by rw[ByteArray.size_extract]; omega
theorem wh (sep:ByteArray):∀ (k:Nat) (s y:ByteArray),y∈Lib.splitB sep 0 k s->y.size<=s.size
 | 0,s,y,h=>by
  rw[Lib.splitB_zero,List.mem_singleton] at h;rw[h]; exact Nat.le_refl _
 | k+1,s,y,h=>by
  unfold Lib.splitB at h;split at h
  ·rw[List.mem_singleton] at h;rw[h]; exact Nat.le_refl _
  ·rcases List.mem_cons.1 h with rfl | h
   ·exact DB _ _ _
   ·exact Nat.le_trans (wh sep k _ y h) (DB _ _ _)
theorem Iw {P:Program} {f g:FuncId} {t9:TypeId} (hc:mj P f=true) (hg:Jb g=true)
  (h1:∀ (s sep:ByteArray) (m:Int) (w:World),s.size<4294967281->w.cell? ⟨g,0,none⟩=some (.int .i64 m)->1<=sep.size ->
   Calls P f #[.string s,.string sep] w fun e w'=>e = .returned (.slice (some ⟨w.heap.size,0,none⟩) (Lib.countB s sep+1) (Lib.countB s sep+1))/\w'=w.alloc (.cells ((Lib.splitB sep 0 (Lib.countB s sep) s).map Value.string).toArray t9)):de P (yC f):=by
 refine⟨hc,fun x r hr=>?_⟩;obtain⟨l,sep⟩:=x;obtain⟨l,rfl⟩:∃ m:Bs,m=l:=⟨l,rfl⟩;obtain⟨sep,rfl⟩:∃ m:Bs,m=sep:=⟨sep,rfl⟩;obtain⟨r,rfl⟩:∃ m:List Bs,m=r:=⟨r,rfl⟩;have hr:BL l sep=some r:=hr;unfold BL at hr;obtain⟨hb,hr⟩:=aq hr;rw[Bool.and_eq_true,jR,jR,decide_eq_true_eq,decide_eq_true_eq] at hb;injection hr with hr
 show gS P f ⟨[.c (.v (.p (.str (mkS l)))),.c (.v (.p (.str (mkS sep))))],[],.one (.v (.p (.sl (r.map fun x=>[PV.str (mkS x)])))),[]⟩;intro w G vs hnorm hglob hargs _;obtain⟨v0,v1,rfl⟩:∃ v0 v1,vs=[v0,v1]:=by
  have:=hargs.1;match vs,this with
  | [a,b],_=>exact⟨a,b,rfl⟩
 have r0:Rd (In G.χ 0) w (.str (mkS l)) v0:=(hargs.2 0 _ _ rfl rfl:SRd G _ w _ v0).val;have r1:Rd (In G.χ 0) w (.str (mkS sep)) v1:=(hargs.2 1 _ _ rfl rfl:SRd G _ w _ v1).val;have hv0:v0 = .string (mkS l):=by cases r0; rfl
 have hv1:v1 = .string (mkS sep):=by cases r1; rfl
 subst hv0;subst hv1;obtain⟨_,_,_,h4,_⟩:=hglob g (.inr (.inl hg));obtain⟨m,hm⟩:=h4 hg;refine (h1 (mkS l) (mkS sep) m w (by rw[fw]; omega) hm (by rw[fw]; omega)).mono ?_;rintro e w' ⟨rfl,rfl⟩;have hlen:(Lib.splitB (mkS sep) 0 (Lib.countB (mkS l) (mkS sep)) (mkS l)).length=Lib.countB (mkS l) (mkS sep)+1:=Lib.splitB_all _ (by rw[fw]; omega) 0 _ _ rfl;have hle:=Lib.countB_le (mkS sep) (by rw[fw]; omega) _ (mkS l) (Nat.le_refl _);rw[fw] at hle;generalize hps:Lib.splitB (mkS sep) 0 (Lib.countB (mkS l) (mkS sep)) (mkS l)=ps at *
 have hrps:r=ps.map (·.data.toList):=by rw[← hr,Fy,hps]
 have hrl:(r.map fun x=>[PV.str (mkS x)]).length=Lib.countB (mkS l) (mkS sep)+1:=by rw[List.length_map,hrps,List.length_map,hlen]
 have bel:Below w.heap.size w (w.alloc (.cells (ps.map Value.string).toArray t9)):=(Below.refl _ w).alloc (Nat.le_refl _) _;rw[← hrl];refine⟨G,_,[_],rfl,rfl,bel.os,bel.tape,bel.output,bel.size,fun b hb _=>⟨bel.block b hb,rfl⟩,fun b hb=>.inl hb,fun _ _=>⟨rfl,rfl⟩,fun b hb=>hnorm b (Nat.le_trans bel.size hb),⟨rfl,fun i x v hx hv=>?_⟩,(fun o h ho=>by cases ho)⟩;cases i with
 | succ i=>simp [Rz.eF] at hx
 | zero =>
  simp [Rz.eF] at hx hv;subst hx hv;refine⟨rfl,by simp [av.ids],?_⟩;have hsz:∀ y∈ps,y.size<=9223372036854775807:=fun y hy=>by
   rw[← hps] at hy;have:=wh _ _ _ y hy;rw[fw] at this;omega
  have hlt:w.heap.size<(w.alloc (.cells (ps.map Value.string).toArray t9)).heap.size:=by simp
  have hne:(r.map fun x=>[PV.str (mkS x)])≠[]:=fun e=>by rw[e] at hrl; simp at hrl
  have hps2:∀ i (x:Bs),r[i]?=some x->∃ y,ps[i]?=some y/\y=mkS x:=fun i x hi=>by
   rw[hrps,List.getElem?_map,Option.map_eq_some_iff] at hi;obtain⟨y,hy,rfl⟩:=hi;exact⟨y,hy,rfl⟩
  suffices key:Rd (In G.χ 0) (w.alloc (.cells (ps.map Value.string).toArray t9)) (.sl (r.map fun x=>[PV.str (mkS x)])) (.slice (some ⟨w.heap.size,0,none⟩) (r.map fun x=>[PV.str (mkS x)]).length (r.map fun x=>[PV.str (mkS x)]).length) by rw[List.length_map] at key; exact key
  refine Rd.sl (z:=1) (fun i _=>.string (ps.getD i ByteArray.empty)) (b:=w.heap.size) (off:=0) hne (hnorm _ (Nat.le_refl _)) hlt (Nat.le_refl _) (by rw[hrl]; omega) (fun i cs hi=>?_) (fun i j cs p hi hj=>?_) (fun i j cs p hi hj=>?_)
  ·rw[List.getElem?_map,Option.map_eq_some_iff] at hi;obtain⟨c,_,rfl⟩:=hi;rfl
  ·rw[List.getElem?_map,Option.map_eq_some_iff] at hi;obtain⟨c,hc,rfl⟩:=hi;obtain⟨y,hy,_⟩:=hps2 i c hc;cases j with
   | zero =>
    rw[Nat.zero_add,Nat.mul_one,Nat.add_zero,List.getD_eq_getElem?_getD,hy];have hh:(w.alloc (.cells (ps.map Value.string).toArray t9)).heap[w.heap.size]?=some (.cells (ps.map Value.string).toArray t9):=by simp [World.alloc,-World.alloc_eq]
    unfold World.cell?;rw[hh];simp [hy]
   | succ j=>simp at hj
  ·rw[List.getElem?_map,Option.map_eq_some_iff] at hi;obtain⟨c,hc,rfl⟩:=hi;obtain⟨y,hy,rfl⟩:=hps2 i c hc;cases j with
   | zero =>
    simp at hj;subst hj;rw[List.getD_eq_getElem?_getD,hy];exact .str (hsz _ (List.mem_of_getElem? hy))
   | succ j=>simp at hj
end Go.Lad
namespace Go.Lad
open Go.RowKit
def qd (s sub:Bs):Option Bool:=cond (Nat.ble s.length 1000000000) (some (Lib.contains s sub)) none
noncomputable def rZ (f:FuncId):Con:=⟨f,[.c (.v (.d .str)),.c (.v (.d .str))],[],[],[.str,.str],.one (.v (.d .bool)),[],[.bool],fun x=>qd x.1 x.2⟩
theorem BM {P:Program} {f g:FuncId} (hc:mj P f=true) (hg:Jb g=true)
  (h1:∀ (s sub:ByteArray) (m:Int) (w:World),s.size<4294967281->w.cell? ⟨g,0,none⟩=some (.int .i64 m) ->
   Calls P f #[.string s,.string sub] w fun e w'=>e = .returned (.bool (Lib.contains s.data.toList sub.data.toList))/\w'=w):de P (rZ f):=by
 refine⟨hc,fun x r hr=>?_⟩;obtain⟨l,sep⟩:=x;obtain⟨l,rfl⟩:∃ m:Bs,m=l:=⟨l,rfl⟩;obtain⟨sep,rfl⟩:∃ m:Bs,m=sep:=⟨sep,rfl⟩;obtain⟨r,rfl⟩:∃ m:Bool,m=r:=⟨r,rfl⟩;have hr:qd l sep=some r:=hr;unfold qd at hr;obtain⟨hb,hr⟩:=aq hr;rw[jR,decide_eq_true_eq] at hb;injection hr with hr
 show gS P f ⟨[.c (.v (.p (.str (mkS l)))),.c (.v (.p (.str (mkS sep))))],[],.one (.v (.p (.bool r))),[]⟩;intro w G vs hnorm hglob hargs _;obtain⟨v0,v1,rfl⟩:∃ v0 v1,vs=[v0,v1]:=by
  have:=hargs.1;match vs,this with
  | [a,b],_=>exact⟨a,b,rfl⟩
 have r0:Rd (In G.χ 0) w (.str (mkS l)) v0:=(hargs.2 0 _ _ rfl rfl:SRd G _ w _ v0).val;have r1:Rd (In G.χ 0) w (.str (mkS sep)) v1:=(hargs.2 1 _ _ rfl rfl:SRd G _ w _ v1).val;have hv0:v0 = .string (mkS l):=by cases r0; rfl
 have hv1:v1 = .string (mkS sep):=by cases r1; rfl
 subst hv0;subst hv1;obtain⟨_,_,_,h4,_⟩:=hglob g (.inr (.inl hg));obtain⟨m,hm⟩:=h4 hg;refine (h1 (mkS l) (mkS sep) m w (by rw[fw]; omega) hm).mono ?_;rintro e w' ⟨rfl,rfl⟩;rw[iW,iW,hr];refine⟨G,_,[_],rfl,rfl,rfl,rfl,rfl,Nat.le_refl _,fun b hb _=>⟨rfl,rfl⟩,fun b hb=>.inl hb,fun _ _=>⟨rfl,rfl⟩,hnorm,⟨rfl,fun i x v hx hv=>?_⟩,(fun o h ho=>by cases ho)⟩;cases i with
 | succ i=>simp [Rz.eF] at hx
 | zero =>
  simp [Rz.eF] at hx hv;subst hx hv;exact⟨rfl,by simp [av.ids],Rd.bool⟩
end Go.Lad
namespace Go.Lad
noncomputable instance (priority:=high) instDecF:DecidableEq (List ba):=fun a b=>Classical.propDecidable (a=b)
noncomputable instance (priority:=high) instDecE:DecidableEq (List nT):=fun a b=>Classical.propDecidable (a=b)
noncomputable instance QW:DecidableEq (Bs×List ((Int×Int×Int)×(Int×Int×Int))×Int×Bs×List Bs):=@instDecidableEqProd Bs _ inferInstance (@instDecidableEqProd (List ((Int×Int×Int)×(Int×Int×Int))) _ inferInstance inferInstance)
noncomputable instance (priority:=high) instDecV:DecidableEq (List lE):=fun a b=>Classical.propDecidable (a=b)
noncomputable instance (priority:=high) instDecL:DecidableEq (List oY):=fun a b=>Classical.propDecidable (a=b)
end Go.Lad
namespace Go.Proofs.YtcppfkflcigjcaaGreatDoor
open Go.Lad
def wi {α:Type} (xs:List α):List (Int×α):=(xs.zipIdx.map fun q=>((q.2:Int),q.1)).reverse
def O0 {α:Type} (xs:List α):Option (List (Int×α)):=some (wi xs)
end Go.Proofs.YtcppfkflcigjcaaGreatDoor
namespace Go.Lad
open Go.RowKit
abbrev encI (x:Int):Value := .int .i64 x
def ints (l:List Int):List (List PV):=l.map fun x=>[PV.int .i64 x]
def aft (w:World) (q g off:Nat) (d:List Int) (os:Array Obj):World:=Sort.grow (Sort.putRow encI (Sort.ahead w q) g off d.toArray) os
section
variable {w:World} {q g off:Nat} {d:List Int} {os:Array Obj}
theorem Ix (w:World):Sort.grow w #[]=w:=by cases w; simp [Sort.grow]
theorem DC:Sort.putRow encI (Sort.ahead w q) g off d.toArray=aft w q g off d #[]:=by
 unfold aft; rw[Ix]
theorem K8:w.heap.size<=(aft w q g off d os).heap.size:=by simp [aft,Sort.grow,Sort.putRow,Sort.mapBlock,Sort.ahead]
theorem NK {cur:Array Value} {e:TypeId} {fr:Nat×Nat} (hb:w.heap[g]?=some (.cells cur e fr)):(aft w q g off d os).heap[g]?=some (.cells (Sort.putCells encI off d.toArray cur) e fr):=by
 have hg:g<w.heap.size:=(Array.getElem?_eq_some_iff.1 hb).1;unfold aft;rw[Sort.heap_grow_old _ _ (by simpa [Sort.putRow,Sort.mapBlock,Sort.ahead] using hg)];simp [Sort.putRow,Sort.mapBlock,Sort.ahead,Array.getElem?_modify,hb,Sort.onCells]
theorem NL {cur:Array Value} {e:TypeId} (hb:jD w g cur e):jD (aft w q g off d os) g (Sort.putCells encI off d.toArray cur) e:=by
 obtain⟨fr,h1,h2⟩:=hb;exact⟨fr,NK h1,by rw[show (Sort.putCells encI off d.toArray cur).size=cur.size by simp [Sort.putCells]]; exact h2⟩
theorem Fz {w:World} {g:Nat} {cur:Array Value} {e:TypeId} (hb:jD w g cur e) (i:Nat):w.frozen? ⟨g,i,none⟩=false:=by
 obtain⟨⟨lo,hi⟩,h1,h2⟩:=hb;simp only[World.frozen?,h1,Bool.and_eq_false_iff,decide_eq_false_iff_not];rcases h2 with h2 | ⟨_,h2⟩
 ·simp only at h2; omega
 ·cases h2
theorem Iy {b:Nat} (hb:b<w.heap.size) (hne:g≠b):(aft w q g off d os).heap[b]?=w.heap[b]? := by
 unfold aft;rw[Sort.heap_grow_old _ _ (by simpa [Sort.putRow,Sort.mapBlock,Sort.ahead] using hb)];simp [Sort.putRow,Sort.mapBlock,Sort.ahead,Array.getElem?_modify,hne]
theorem Iz {cur:Array Value} {n:Nat} (hn:n<=d.length) (h:off+d.length<=cur.size):((Sort.putCells encI off d.toArray cur).toList.drop off).take n=(d.take n).map encI:=by
 apply List.ext_getElem?;intro j;by_cases hj:j<n
 ·rw[List.getElem?_take_of_lt hj,List.getElem?_drop,Array.getElem?_toList,List.getElem?_map,List.getElem?_take_of_lt hj];have h1:off+j<cur.size:=by omega
  have h2:j<d.length:=by omega
  simp [Sort.putCells,h1,h2,show off+j<off+d.length by omega]
 ·rw[List.getElem?_take_eq_none (by omega),List.getElem?_eq_none (by simp; omega)]
end
section
variable {w:World} {k e:Nat} {χ:Col} {v:Value} {l:List Int}
theorem BN {F:Nat->Prop} {w:World} {k:IntKind} {n:Int} {v:Value} (h:Rd F w (.int k n) v):v = .int k n/\inK k n:=by cases h; exact⟨rfl,by assumption⟩
theorem ints_at {l:List Int} {j:Nat} (hj:j<l.length):(ints l)[j]?=some [PV.int .i64 l[j]]:=by unfold ints; rw[List.getElem?_map,List.getElem?_eq_getElem hj]; rfl
theorem K9 (g off j:Nat):(⟨g,off,none⟩:Addr).add j=⟨g,off+j,none⟩:=by
 unfold Addr.add;split
 ·rename_i h; subst h; rfl
 ·rfl
theorem yD (h:Own (α:=CZ 1) k χ e w v (ints l)) :
  (v = .slice none 0 0/\l=[])\/∃ g cap cur off,v = .slice (some ⟨g,off,none⟩) l.length cap/\g<w.heap.size/\χ g=k/\jD w g cur e/\l.length<=cap/\cap<=maxLen/\off+cap<=cur.size/\Sort.Holds encI w g off l.toArray/\∀ x∈l,inK .i64 x:=by
 obtain⟨xs,hor,hrd⟩:=h.ex;have hlen:List.length (α:=CZ 1) (ints l)=l.length:=by show List.length (α:=List PV) (ints l)=_; unfold ints; simp
 have hxl:xs.length=l.length:=by
  have:=hor.1;rw[show aA.sz (CZ 1)=1 from rfl,Nat.mul_one] at this;exact this.trans hlen
 rcases hor.2 with⟨hv,hn⟩ | ⟨g,cap,cur,off,hv,_,hb,hnc,hm,hsz,hxs⟩
 ·exact .inl ⟨hv,List.eq_nil_of_length_eq_zero (by rw[← hlen]; exact hn)⟩
 ·refine .inr ⟨g,cap,cur,off,by rw[hv]; congr 1,hb.lt,h.col g (by rw[hv]; rfl),hb,by rw[← hlen]; exact hnc,hm,by rw[show aA.sz (CZ 1)=1 from rfl,Nat.mul_one] at hsz; exact hsz,?_,?_⟩
  ·intro j hj;have hj:j<l.length:=by simpa using hj
   have hrow:=hrd j _ (ints_at hj);obtain⟨_,hR⟩:=hrow;have hch:chunk (aA.sz (CZ 1)) j xs=[xs[j]'(by omega)]:=by
    show (xs.drop (j * 1)).take 1=_;rw[Nat.mul_one,List.drop_eq_getElem_cons (by omega)]; rfl
   rw[hch] at hR;have hv1:=hR.2 0 _ _ rfl rfl;have hxj:xs[j]'(by omega)=encI l[j]:=(BN hv1).1;have hcell:=jq.cells hor (g:=g) (by rw[hv]; rfl) j (xs[j]'(by omega)) (List.getElem?_eq_getElem (by omega));refine⟨?_,Fz hb _⟩;have ho:lB v=off:=by rw[hv]; rfl
   rw[hxj,ho,K9] at hcell;rw[hcell];simp [hj]
  ·intro x hx;obtain⟨j,hj,rfl⟩:=List.mem_iff_getElem.1 hx;have hrow:=hrd j _ (ints_at hj);obtain⟨_,hR⟩:=hrow;have hch:chunk (aA.sz (CZ 1)) j xs=[xs[j]'(by omega)]:=by
    show (xs.drop (j * 1)).take 1=_;rw[Nat.mul_one,List.drop_eq_getElem_cons (by omega)]; rfl
   rw[hch] at hR;exact (BN (hR.2 0 _ _ rfl rfl)).2
theorem NM {q g off cap:Nat} {cur:Array Value} {os:Array Obj} {χ':Col} {k':Nat} {l' pad:List Int} (hb:jD w g cur e) (hc:(l'++pad).length<=cap) (hm:cap<=maxLen) (hs:off+cap<=cur.size) (hk:χ' g=k') (hi:∀ x∈l',inK .i64 x) :
  Own (α:=CZ 1) k' χ' e (aft w q g off (l'++pad) os) (.slice (some ⟨g,off,none⟩) l'.length cap) (ints l'):=by
 have hlen:List.length (α:=CZ 1) (ints l')=l'.length:=by show List.length (α:=List PV) (ints l')=_; unfold ints; simp
 have hll:l'.length<=(l'++pad).length:=by simp
 refine⟨⟨l'.map encI,⟨by rw[List.length_map,hlen]; show _=_ * 1; omega,.inr ⟨g,cap,_,off,by rw[hlen],Nat.zero_le _,NL hb,by rw[hlen]; omega,hm,?_,?_⟩⟩,fun j row hj=>?_⟩,fun b hb'=>?_⟩
 ·show off+cap * 1<=_;simp [Sort.putCells]; omega
 ·rw[hlen,show aA.sz (CZ 1)=1 from rfl,Nat.mul_one,Iz hll (by omega),List.take_append_of_le_length (Nat.le_refl _),List.take_length]
 ·have hj:(l'.map fun x=>[PV.int .i64 x])[j]?=some (show List PV from row):=hj;rw[List.getElem?_map,Option.map_eq_some_iff] at hj;obtain⟨x,hx,rfl⟩:=hj;obtain⟨hjl,hxe⟩:=List.getElem?_eq_some_iff.1 hx;have hch:chunk (aA.sz (CZ 1)) j (l'.map encI)=[encI x]:=by
   show ((l'.map encI).drop (j * 1)).take 1=_;rw[Nat.mul_one,List.drop_eq_getElem_cons (by rw[List.length_map]; exact hjl),List.getElem_map,hxe]; rfl
  rw[hch];refine⟨rfl,rfl,fun i p u hp hu=>?_⟩;cases i with
  | zero =>
   simp at hp hu;subst hp hu;exact .int (hi x (hxe ▸ List.getElem_mem hjl))
  | succ i=>simp at hp
 ·simp [Value.ownBlock] at hb';subst hb'; exact hk
end
theorem yE {P:Program} {f:FuncId} {e:TypeId} {l r:List Int} {as:List Slot} (has:∀ (G:Gh) (hp:Hp) (w:World) (vs:List Value),dU (SRd G hp w) as vs->∀ x∈as.zip vs,True)
  {H:List Value->Prop}
  (hcall:∀ (w:World) (v:Value) (us:List Value) (G:Gh) (hp:Hp),dU (SRd G hp w) as us->∀ (χ:Col),Own (α:=CZ 1) 1000002 χ e w v (ints l) ->
   Calls P f (v::us).toArray w fun en w'=>(en = .returned v/\w'=w/\r=l)\/∃ g cap cur off q pad,v = .slice (some ⟨g,off,none⟩) l.length cap/\g<w.heap.size/\jD w g cur e/\cap<=maxLen/\off+cap<=cur.size/\en = .returned (.slice (some ⟨g,off,none⟩) r.length cap)/\w'=aft w q g off (r++pad) #[]/\(r++pad).length<=cap/\∀ x∈r,inK .i64 x) :
  gS P f ⟨.c (.v (.own 1000000))::as,[(1000000,.arr e 1 (ints l))],.one (.v (.own 0)),[(0,.arr e 1 (ints r)),(1000000,.gone)]⟩:=by
 intro w G vs hnorm hglob hargs hobjs;obtain⟨v0,us,rfl⟩:∃ v0 us,vs=v0::us:=by
  have:=hargs.1;match vs,this with
  | a::l,_=>exact⟨a,l,rfl⟩
 have hv0:v0=G.hv 1000000:=(hargs.2 0 _ _ rfl rfl:SRd G _ w _ v0).val;obtain⟨hown,hbl⟩:=hobjs 1000000 _ rfl;have hown:Own (α:=CZ 1) 1000002 G.χ e w v0 (ints l):=by rw[hv0]; exact hown
 have hus:dU (SRd G (hpL [(1000000,.arr e 1 (ints l))]) w) as us:=⟨by have:=hargs.1; simpa using this,fun i a b ha hb=>hargs.2 (i+1) a b (by simpa using ha) (by simpa using hb)⟩;refine (hcall w v0 us G _ hus G.χ hown).mono ?_;have hG:∀ (w':World) (v':Value),w'.os=w.os->w'.tape=w.tape->w'.output=w.output->w.heap.size<=w'.heap.size->(∀ b,b<w.heap.size->v0.ownBlock≠some b->w'.heap[b]?=w.heap[b]?)->v'.ownBlock=v0.ownBlock->v'.oneCell'=true ->
   (∀ χ':Col,(∀ g,v0.ownBlock=some g->χ' g=2)->(∀ b,χ' b=0↔G.χ b=0)->Own (α:=CZ 1) 2 χ' e w' v' (ints r)) ->
   ∃ (G':Gh) (v:Value) (us:List Value),Ending.returned v' = .returned v/\(Rz.one (.v (.own 0))).val v us/\w'.os=w.os/\w'.tape=w.tape/\w'.output=w.output/\w.heap.size<=w'.heap.size /\
   (∀ b,b<w.heap.size->G.χ b<=1->w'.heap[b]?=w.heap[b]?/\G'.χ b=G.χ b)/\(∀ b,2<=G'.χ b->2<=G.χ b\/w.heap.size<=b)/\(∀ o,1000000<=o->G'.bl o=G.bl o/\G'.hv o=G.hv o)/\Norm G'.χ w' /\
   dU (CRd G' (hpL [(0,.arr e 1 (ints r)),(1000000,.gone)]) w') (Rz.one (.v (.own 0))).eF us/\(∀ o h,hpL [(0,.arr e 1 (ints r)),(1000000,.gone)] o=some h->HRd G' (hpL [(0,.arr e 1 (ints r)),(1000000,.gone)]) w' o h):=by
  intro w' v' c1 c2 c3 c4 c5 c6 c7 c8;have hcolb:∀ g,v0.ownBlock=some g->G.χ g=1000002:=hown.col;refine⟨⟨fun b=>if v0.ownBlock=some b then 2 else G.χ b,fun o=>if o=0 then v0.ownBlock.getD 0 else G.bl o,fun o=>if o=0 then v' else G.hv o⟩,v',[v'],rfl,rfl,c1,c2,c3,c4,fun b hb hχ=>?_,fun b hb=>?_,fun o ho=>⟨if_neg (by omega),if_neg (by omega)⟩,fun b hb=>?_,⟨rfl,fun i x v hx hv=>?_⟩,fun o h ho=>?_⟩
  ·have hne:v0.ownBlock≠some b:=fun e=>by have:=hcolb b e; omega
   exact⟨c5 b hb hne,if_neg hne⟩
  ·dsimp only at hb;split at hb
   ·rename_i he;exact .inl (by have:=hcolb b he; omega)
   ·exact .inl hb
  ·dsimp only;split
   ·rename_i he;have h1:=hcolb b he;have h2:=hnorm b (Nat.le_trans c4 hb);rw[h1] at h2;exact absurd h2 (by decide)
   ·exact hnorm b (Nat.le_trans c4 hb)
  ·cases i with
   | succ i=>simp [Rz.eF] at hx
   | zero =>
    simp [Rz.eF] at hx hv;subst hx hv;exact⟨c7,by simp [av.ids,hpL,ae],by simp [LVal]⟩
  ·simp only[hpL,ae] at ho;split at ho
   ·rename_i he;have he:o=0:=by simpa using he
    subst he;injection ho with ho
    subst ho;refine⟨?_,fun b hb'=>?_⟩
    ·show Own (α:=CZ 1) 2 _ e w' (if (0:Nat)=0 then v' else G.hv 0) (ints r);rw[if_pos rfl];refine c8 _ (fun g hg=>if_pos hg) fun b=>?_;dsimp only;split
     ·rename_i he;have:=hcolb b he;rw[this];exact⟨fun h=>absurd h (by decide),fun h=>absurd h (by decide)⟩
     ·exact Iff.rfl
    ·have hb':(if (0:Nat)=0 then v' else G.hv 0).ownBlock=some b:=hb';rw[if_pos rfl,c6] at hb';show b=if (0:Nat)=0 then v0.ownBlock.getD 0 else G.bl 0
     rw[if_pos rfl,hb']; rfl
   ·split at ho
    ·injection ho with ho
     subst ho;trivial
    ·cases ho
 rintro en w' (⟨rfl,rfl,rfl⟩ | ⟨g,cap,cur,off,q,pad,hv,hg,hbk,hm,hs,rfl,rfl,hpl,hin⟩)
 ·refine hG w' v0 rfl rfl rfl (Nat.le_refl _) (fun b _ _=>rfl) rfl ?_ fun χ' h1 h2=>?_
  ·rcases yD hown with⟨hv,_⟩ | ⟨_,_,_,_,hv,_⟩ <;> rw[hv] <;> rfl
  ·refine⟨?_,h1⟩;obtain⟨xs,hor,hrd⟩:=hown.ex;refine⟨xs,hor,fun i x hx=>?_⟩;have:=hrd i x hx;exact⟨this.1,this.2.frame fun b hb hlt=>⟨(h2 b).2 hb,rfl⟩⟩
 ·refine hG _ _ rfl rfl rfl K8 (fun b hb hne=>Iy hb (fun e=>hne (by rw[hv,e]; rfl))) (by rw[hv]; rfl) rfl fun χ' h1 h2=>?_;exact NM hbk hpl hm hs (h1 g (by rw[hv]; rfl)) hin
def NN (l:List Int) (i j:Int):Option (List Int):=cond (!Nat.beq l.length 0 && (leZ 0 i && (leZ i j && leZ j (l.length:Int)))) (some (l.take i.toNat++l.drop j.toNat)) none
noncomputable def BO (f:FuncId) (e:TypeId):Con:=⟨f,[.c (.v (.own 1000000)),.c (.v (.d (.int .i64))),.c (.v (.d (.int .i64)))],[],[(1000000,.arr e (.int .i64))],[.int .i64,.int .i64,.sl (.int .i64)],.one (.v (.own 0)),[(0,.arr e (.int .i64)),(1000000,.gone)],[.sl (.int .i64)],fun x=>NN x.2.2 x.1 x.2.1⟩
theorem GP {G:Gh} {hp:Hp} {w:World} {k:IntKind} {n:Int} {v:Value} (h:SRd G hp w (.c (.v (.p (.int k n)))) v):v = .int k n:=by
 have h1:Rd (In G.χ 0) w (.int k n) v:=(h:LRd G hp w _ v).val;cases h1; rfl
theorem NO {P:Program} {f:FuncId} {e:TypeId} (hc:mj P f=true)
  (h1:∀ (blk off cap i j:Nat) (zs:List Int) (w:World),Sort.Holds (Value.int .i64) w blk off zs.toArray->zs.length<=cap->cap<=9223372036854775807->i<=j->j<=zs.length ->
   Calls P f #[.slice (some ⟨blk,off,none⟩) zs.length cap,.int .i64 i,.int .i64 j] w fun e w'=>e = .returned (.slice (some ⟨blk,off,none⟩) (zs.length-(j-i)) cap)/\∃ q,w'=Sort.putRow (Value.int .i64) (Sort.ahead w q) blk off (zs.take i++zs.drop j++List.replicate (j-i) 0).toArray):de P (BO f e):=by
 refine⟨hc,fun x r hr=>?_⟩;obtain⟨i,j,l⟩:=x;obtain⟨i,rfl⟩:∃ m:Int,m=i:=⟨i,rfl⟩;obtain⟨j,rfl⟩:∃ m:Int,m=j:=⟨j,rfl⟩;obtain⟨l,rfl⟩:∃ m:List Int,m=l:=⟨l,rfl⟩;obtain⟨r,rfl⟩:∃ m:List Int,m=r:=⟨r,rfl⟩;have hr:NN l i j=some r:=hr;unfold NN at hr;obtain⟨hb,hr⟩:=aq hr;injection hr with hr
 rw[Bool.and_eq_true,Bool.and_eq_true,Bool.and_eq_true,gC,gC,gC,decide_eq_true_eq,decide_eq_true_eq,decide_eq_true_eq] at hb;obtain⟨hb0,hb1,hb2,hb3⟩:=hb;have hl0:l.length≠0:=by
  rw[eE] at hb0
  simpa using hb0
 have key:gS P f ⟨[.c (.v (.own 1000000)),.c (.v (.p (.int .i64 i))),.c (.v (.p (.int .i64 j)))],[(1000000,.arr e 1 (ints l))],.one (.v (.own 0)),[(0,.arr e 1 (ints r)),(1000000,.gone)]⟩:=by
  refine yE (H:=fun _=>True) (fun _ _ _ _ _ _ _=>trivial) fun w v us G hp hus χ hown=>?_;obtain⟨a,b,rfl⟩:∃ a b,us=[a,b]:=by
   have:=hus.1;match us,this with
   | [a,b],_=>exact⟨a,b,rfl⟩
  have ha:=GP (hus.2 0 _ _ rfl rfl);have hb:=GP (hus.2 1 _ _ rfl rfl);subst ha hb;rcases yD hown with⟨hv,hl⟩ | ⟨g,cap,cur,off,hv,hg,hcol,hbk,hnc,hm,hs,hH,hin⟩
  ·rw[hl] at hl0; exact absurd rfl hl0
  ·obtain⟨I,rfl⟩:∃ I:Nat,i=I:=⟨i.toNat,by omega⟩;obtain⟨J,rfl⟩:∃ J:Nat,j=J:=⟨j.toNat,by omega⟩;rw[hv];refine (h1 g off cap I J l w hH hnc (by unfold maxLen at hm; omega) (by omega) (by omega)).mono ?_;rintro en w' ⟨rfl,q,rfl⟩;have hr':r=l.take I++l.drop J:=by rw[← hr,Int.toNat_natCast,Int.toNat_natCast]
   have hrl:r.length=l.length-(J-I):=by rw[hr',List.length_append,List.length_take,List.length_drop]; omega
   refine .inr ⟨g,cap,cur,off,q,List.replicate (J-I) 0,rfl,hg,hbk,hm,hs,by rw[hrl],by rw[hr']; exact DC,by rw[List.length_append,List.length_replicate,hrl]; omega,fun x hx=>hin x ?_⟩;rw[hr'] at hx;rcases List.mem_append.1 hx with hx | hx
   ·exact List.mem_of_mem_take hx
   ·exact List.mem_of_mem_drop hx
 have hl:∀ l:List Int,kH (.int .i64) ⟨.sl (.int .i64),l⟩=l:=fun l=>nW (t := .int .i64) l;have e1:(BO f e).spec (i,j,l) r=⟨[.c (.v (.own 1000000)),.c (.v (.p (.int .i64 i))),.c (.v (.p (.int .i64 j)))],[(1000000,.arr e 1 (ints l))],.one (.v (.own 0)),[(0,.arr e 1 (ints r)),(1000000,.gone)]⟩:=by
  show ra.mk _ [(1000000,bI.un (.arr e (.int .i64) (kH (.int .i64) ⟨.sl (.int .i64),l⟩)))] _ [(0,bI.un (.arr e (.int .i64) (kH (.int .i64) ⟨.sl (.int .i64),r⟩))),(1000000,.gone)]=_;rw[hl,hl];rfl
 show gS P f ((BO f e).spec (i,j,l) r);rw[e1];exact key
theorem DD {l:List Int} {x:Int} (h:x∈Lib.compact l):x∈l:=by
 unfold Lib.compact Lib.compactUpTo at h;obtain⟨i,hi,rfl⟩:=List.mem_map.1 h;have hi:=List.mem_range.1 (List.mem_filter.1 hi).1;simp [hi]
theorem DE (l:List Int):(Lib.compact l).length<=l.length:=by
 unfold Lib.compact Lib.compactUpTo;rw[List.length_map];exact Nat.le_trans (List.length_filter_le _ _) (by simp)
def GQ (l:List Int):Option (List Int):=cond (Nat.ble l.length 4000000000) (some (Lib.compact l)) none
noncomputable def uD (f:FuncId) (e:TypeId):Con:=⟨f,[.c (.v (.own 1000000))],[],[(1000000,.arr e (.int .i64))],[.sl (.int .i64)],.one (.v (.own 0)),[(0,.arr e (.int .i64)),(1000000,.gone)],[.sl (.int .i64)],fun l=>GQ l⟩
theorem La {P:Program} {f:FuncId} {e:TypeId} (hc:mj P f=true)
  (h1:∀ (blk off cap:Nat) (zs:List Int) (w:World),Sort.Holds (Value.int .i64) w blk off zs.toArray->zs.length<=9223372036854775807->zs.length<=cap ->
   Calls P f #[.slice (some ⟨blk,off,none⟩) zs.length cap] w fun e w'=>e = .returned (.slice (some ⟨blk,off,none⟩) (Lib.compact zs).length cap)/\∃ q,w'=Sort.putRow (Value.int .i64) (Sort.ahead w q) blk off (Lib.compact zs++List.replicate (zs.length-(Lib.compact zs).length) 0).toArray)
  (h0:∀ (a:Option Addr) (cap:Nat) (w:World),Calls P f #[.slice a 0 cap] w fun e w'=>e = .returned (.slice a 0 cap)/\w'=w):de P (uD f e):=by
 refine⟨hc,fun x r hr=>?_⟩;obtain⟨l,rfl⟩:∃ m:List Int,m=x:=⟨x,rfl⟩;obtain⟨r,rfl⟩:∃ m:List Int,m=r:=⟨r,rfl⟩;have hr:GQ l=some r:=hr;unfold GQ at hr;obtain⟨hb,hr⟩:=aq hr;rw[jR,decide_eq_true_eq] at hb;injection hr with hr
 have hcl:=DE l;have key:gS P f ⟨[.c (.v (.own 1000000))],[(1000000,.arr e 1 (ints l))],.one (.v (.own 0)),[(0,.arr e 1 (ints r)),(1000000,.gone)]⟩:=by
  refine yE (H:=fun _=>True) (fun _ _ _ _ _ _ _=>trivial) fun w v us G hp hus χ hown=>?_;have hu:us=[]:=by
   have:=hus.1;match us,this with
   | [],_=>rfl
  subst hu;rcases yD hown with⟨hv,hl⟩ | ⟨g,cap,cur,off,hv,hg,hcol,hbk,hnc,hm,hs,hH,hin⟩
  ·rw[hv];refine (h0 none 0 w).mono ?_;rintro en w' ⟨rfl,rfl⟩;refine .inl ⟨rfl,rfl,?_⟩;rw[← hr,hl]; rfl
  ·rw[hv];refine (h1 g off cap l w hH (by omega) hnc).mono ?_;rintro en w' ⟨rfl,q,rfl⟩;rw[hr] at hcl ⊢;refine .inr ⟨g,cap,cur,off,q,List.replicate (l.length-r.length) 0,rfl,hg,hbk,hm,hs,rfl,DC,by rw[List.length_append,List.length_replicate]; omega,fun x hx=>hin x (DD (by rw[hr]; exact hx))⟩
 have hl:∀ l:List Int,kH (.int .i64) ⟨.sl (.int .i64),l⟩=l:=fun l=>nW (t := .int .i64) l;have e1:(uD f e).spec l r=⟨[.c (.v (.own 1000000))],[(1000000,.arr e 1 (ints l))],.one (.v (.own 0)),[(0,.arr e 1 (ints r)),(1000000,.gone)]⟩:=by
  show ra.mk _ [(1000000,bI.un (.arr e (.int .i64) (kH (.int .i64) ⟨.sl (.int .i64),l⟩)))] _ [(0,bI.un (.arr e (.int .i64) (kH (.int .i64) ⟨.sl (.int .i64),r⟩))),(1000000,.gone)]=_;rw[hl,hl];rfl
 show gS P f ((uD f e).spec l r);rw[e1];exact key
end Go.Lad
namespace Go.Lad
open Go.RowKit
def NP (c:UInt8):Bool:=(Nat.ble 97 c.toNat && Nat.ble c.toNat 122) || (Nat.ble 48 c.toNat && Nat.ble c.toNat 57) || Nat.beq c.toNat 45 || Nat.beq c.toNat 46
def uE (s:Bs):Bool:=Nat.ble s.length 20 && !decide (s=[97,110,100]) && !decide (s=[111,114]) && (match s with | c::_=>Nat.ble 97 c.toNat && Nat.ble c.toNat 122 | []=>false) && s.all NP
def GR (s cs:Bs):Option Bs:=cond (cs.all (fun c=>Nat.blt c.toNat 128) && Nat.ble cs.length 1000000) (some (Lib.trimS s cs)) none
noncomputable def GS (f:FuncId):Con:=⟨f,[.c (.v (.d .str)),.c (.v (.d .str))],[],[],[.str,.str],.one (.v (.d .str)),[],[.str],fun x=>GR x.1 x.2⟩
def BP (s:Bs):Option Bool:=cond (s.all NP) (some false) none
noncomputable def DF (f g:FuncId):Con:=⟨f,[.c (.v (.d .str)),.c (.v (.fn (2 * g) []))],[],[],[.str],.one (.v (.d .bool)),[],[.bool],fun s=>BP s⟩
def rpl:List Bs:=[[40],[32,40,32],[41],[32,41,32]]
def rp1 (c:UInt8):Bs:=cond (Nat.beq c.toNat 40) [32,40,32] (cond (Nat.beq c.toNat 41) [32,41,32] [c])
def GU (a b:Int) (l:List Bs) (s:Bs):Option Bs:=cond (decide (a=0/\b=0/\l=rpl) && Nat.ble s.length 1000000) (some (s.flatMap rp1)) none
abbrev Qd (t:TypeId):OSh := .box t [.d (.int .u32),.d (.int .i32),.d (.int .u32),.dead,.d (.sl .str)]
noncomputable def GV (f:FuncId) (t:TypeId):Con:=⟨f,[.c (.v (.loc 1000000 0)),.c (.v (.d .str))],[],[(1000000,Qd t)],[.str,.int .u32,.int .i32,.int .u32,.sl .str],.one (.v (.d .str)),[(1000000,.gone)],[.str],fun x=>GU x.2.1 x.2.2.1 x.2.2.2.2 x.1⟩
def oE:Nat->Nat->Bs
 | 0,_=>[]
 | k+1,u=>cond (Nat.blt u 10) [UInt8.ofNat (48+u)] (oE k (u / 10)++[UInt8.ofNat (48+u % 10)])
def GW (n:Int):Option Bs:=match n with
 | .ofNat u=>cond (Nat.ble u 9223372036854775807) (some (oE 20 u)) none
 | .negSucc _=>none
noncomputable def GX (f:FuncId):Con:=⟨f,[.c (.v (.d (.int .i64)))],[],[],[.int .i64],.one (.v (.d .str)),[],[.str],fun n=>GW n⟩
def tD:Nat->Bs->Option Nat
 | a,[]=>some a
 | a,c::r=>cond (Nat.ble 48 c.toNat && Nat.ble c.toNat 57) (tD (a * 10+(c.toNat-48)) r) none
def Au (s:Bs):Option Int:=match s with
 | []=>none
 | _=>cond (Nat.ble s.length 18) ((tD 0 s).map Int.ofNat) none
noncomputable def GY (f:FuncId):Con:=⟨f,[.c (.v (.d .str))],[],[],[.str],.tup [.v (.d (.int .i64)),.v .ni],[],[.int .i64],fun s=>Au s⟩
def DG:Bs->Nat->Nat->Int
 | [],_,_=>-1
 | b::l,c,i=>cond (Nat.beq b.toNat c) (i:Int) (DG l c (i+1))
def qU (s:Bs) (c:Int):Option Int:=some (DG s c.toNat 0)
noncomputable def uF (f:FuncId):Con:=⟨f,[.c (.v (.d .str)),.c (.v (.d (.int .u8)))],[],[],[.str,.int .u8],.one (.v (.d (.int .i64))),[],[.int .i64],fun x=>qU x.1 x.2⟩
def NQ:Nat->Nat->Nat
 | 0,_=>0
 | k+1,u=>cond (Nat.beq u 0) 0 (NQ k (u / 2)+1)
def yF (n:Int):Option Int:=match n with
 | .ofNat u=>cond (Nat.ble u 255) (some (NQ 8 u:Nat)) none
 | .negSucc _=>none
noncomputable def yG (f:FuncId):Con:=⟨f,[.c (.v (.d (.int .u64)))],[],[],[.int .u64],.one (.v (.d (.int .i64))),[],[.int .i64],fun n=>yF n⟩
def yH (l:List Int):Option Bs:=cond (Nat.blt 0 l.length && l.all (fun n=>match n with | .ofNat u=>Nat.ble u 255 | _=>false) && Nat.ble l.length 2147483647) (some (l.map fun n=>UInt8.ofNat n.toNat)) none
noncomputable def Pb (f:FuncId) (t:TypeId):Con:=⟨f,[.c (.v (.loc 1000000 0))],[],[(1000000,.box t [.ps 1000000,.nil])],[],.tup [],[(1000000,.box t [.ps 1000000,.nil])],[],fun _=>some ()⟩
noncomputable def NR (f:FuncId) (t e:TypeId):Con:=⟨f,[.c (.v (.loc 1000000 0))],[],[(1000000,.box t [.ps 1000000,.own 1000001]),(1000001,.arr e (.int .u8))],[.sl (.int .u8)],.tup [],[(1000000,.box t [.ps 1000000,.own 1000001]),(1000001,.arr e (.int .u8))],[.sl (.int .u8)],fun l=>some l⟩
noncomputable def NS (f:FuncId) (t e:TypeId):Con:=⟨f,[.c (.v (.loc 1000000 0))],[],[(1000000,.box t [.ps 1000000,.own 1000001]),(1000001,.arr e (.int .u8))],[.sl (.int .u8)],.one (.v (.d .str)),[(1000000,.gone),(1000001,.gone)],[.str],fun l=>yH l⟩
end Go.Lad
namespace Go.Lad
theorem de.Rt {P:Program} {c:Con} {g:Tup c.ps->Option (Tup c.qs)} (h:de P c) (hg:∀ x r,g x=some r->c.fn x=some r):de P { c with fn:=g }:=⟨h.1,fun x r hr=>h.2 x r (hg x r hr)⟩
end Go.Lad
