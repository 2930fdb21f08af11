import Derived.Test.YtkpefpjpadahiaaGreatDoorAb6
import Derived.Lib.AppendStr
namespace Go.Lad
set_option linter.unusedVariables false
set_option linter.unusedSimpArgs false
open Go.RowKit
def Src (χ:Col) (w:World) (z:Nat) (v:Value) (m:List (List PV)):Prop :=
 ∃ A c,∃ news:List Value,v = .slice A m.length c/\news.length=m.length * z/\(∀ u∈news,u.oneCell'=true)/\(∀ i x,m[i]?=some x->aN.rd (α:=CZ z) (In χ 0) w (chunk z i news) x)/\(A=none->m=[]) /\
  (∀ ad,A=some ad->∀ j u,news[j]?=some u->w.cell? (ad.add j)=some u)
theorem Src.sub {χ:Col} {w:World} {z n c a b:Nat} {A:Option Addr} {l:List (List PV)} (h:Src χ w z (.slice A n c) l) (hab:a<=b) (hb:b<=l.length) (hc:l.length<=c):Src χ w z (svV A c a b z) ((l.take b).drop a):=by
 obtain⟨A',c',news,hv,n1,n2,n3,n4,n5⟩:=h;injection hv with hA hn hc'
 subst hA hc';have hl:((l.take b).drop a).length=b-a:=by simp; omega
 have h1:(b-a) * z<=l.length * z-a * z:=by
  rw[← Nat.sub_mul]; exact Nat.mul_le_mul_right _ (by omega)
 refine⟨if c=a then A else A.map (·.add (a * z)),c-a,(news.drop (a * z)).take ((b-a) * z),by rw[hl]; rfl,by rw[hl,List.length_take,List.length_drop,n1]; omega,fun u hu=>n2 u (List.mem_of_mem_drop (List.mem_of_mem_take hu)),fun i x hx=>?_,fun hn=>?_,fun ad had j u hu=>?_⟩
 ·have hi:i<b-a:=by rw[← hl]; exact (List.getElem?_eq_some_iff.1 hx).1
  have hx':((l.take b).drop a)[i]?=some (show List PV from x):=hx;rw[List.getElem?_drop,List.getElem?_take,if_pos (by omega)] at hx';have:=n3 _ x hx';have e:chunk z i ((news.drop (a * z)).take ((b-a) * z))=chunk z (a+i) news:=by
   unfold chunk;apply List.ext_getElem?;intro j;rw[List.getElem?_take,List.getElem?_take];split
   ·rename_i hj;rw[List.getElem?_drop,List.getElem?_take,List.getElem?_drop,List.getElem?_drop];have:i * z+j<(b-a) * z:=by
     have:(i+1) * z<=(b-a) * z:=Nat.mul_le_mul_right _ hi;rw[Nat.add_mul] at this; omega
    rw[if_pos this,Nat.add_mul,Nat.add_assoc]
   ·rfl
  rw[e]; exact this
 ·by_cases hca:c=a
  ·exact List.eq_nil_of_length_eq_zero (by rw[hl]; omega)
  ·rw[if_neg hca] at hn;have:A=none:=by cases A <;> simp_all
   rw[n4 this]; simp
 ·have hj:j<(b-a) * z:=by
   have:=(List.getElem?_eq_some_iff.1 hu).1;rw[List.length_take] at this; omega
  by_cases hca:c=a
  ·have:b-a=0:=by omega
   rw[this] at hj; omega
  ·rw[if_neg hca,Option.map_eq_some_iff] at had;obtain⟨ad0,h0,rfl⟩:=had;rw[List.getElem?_take,if_pos hj,List.getElem?_drop] at hu;have:=n5 ad0 h0 _ u hu;rw[Addr.add_add]; exact this
theorem D7 {e:TypeId} {k kd z:Nat} {χ:Col} {w w':World} {v v':Value} {l m:List (List PV)} {xs news:List Value} (hxl:xs.length=l.length * z) (hx:∀ (i:Nat) x,l[i]?=some x->aN.rd (α:=CZ z) (In χ 0) w (chunk z i xs) x)
  (hcol:∀ g,v.ownBlock=some g->χ g=k) (n2:∀ (i:Nat) x,m[i]?=some x->aN.rd (α:=CZ z) (In χ 0) w (chunk z i news) x) (hk:k≠0) (hnm:Norm χ w)
  (h1:iQ w' e z v' (l.length+m.length) (xs++news)) (h2:w.grownBy w' v.ownBlock) (h3:v'.ownBlock=v.ownBlock\/v'.ownBlock=some w.heap.size) :
  ∃ χ',Own (α:=CZ z) kd χ' e w' v' (l++m)/\Chg [k] χ w χ' w'/\Norm χ' w'/\(∀ b,In χ 0 b->b<w.heap.size->In χ' 0 b/\w'.heap[b]?=w.heap[b]?):=by
 have hold:∀ b,b<w.heap.size->v'.ownBlock=some b->χ b=k:=fun b hb hv=>by
  rcases h3 with h3 | h3
  ·exact hcol b (h3 ▸ hv)
  ·rw[h3] at hv; injection hv with hv; omega
 have hfr:∀ b,In χ 0 b->b<w.heap.size->In (fun b=>if v'.ownBlock=some b then kd else if b<w.heap.size then χ b else 0) 0 b/\w'.heap[b]?=w.heap[b]? := by
  intro b hb hl;have hne:v'.ownBlock≠some b:=fun hv=>hk ((hold b hl hv).symm.trans hb);refine⟨?_,h2.block b hl fun he=>hk ((hcol b he.symm).symm.trans hb)⟩;show (if v'.ownBlock=some b then kd else if b<w.heap.size then χ b else 0)=0;rw[if_neg hne,if_pos hl]; exact hb
 refine⟨fun b=>if v'.ownBlock=some b then kd else if b<w.heap.size then χ b else 0,?_,⟨h2.os,h2.tape,h2.output,h2.size,fun b hb hT=>?_,fun b hb hT=>h2.block b hb ?_⟩,fun b hb=>?_,hfr⟩
 ·refine⟨⟨xs++news,?_,fun j x hj=>?_⟩,fun g hg=>?_⟩
  ·exact (by rw[List.length_append]; exact h1:iQ w' e z v' (l++m).length (xs++news))
  ·refine aN.frame hfr ?_;rcases Nat.lt_or_ge j l.length with hjl | hjl
   ·have hj':l[j]?=some x:=by rw[← List.getElem?_append_left (l₂:=m) hjl]; exact hj
    have e1:chunk z j (xs++news)=chunk z j xs:=by
     unfold chunk;have:j * z+z<=xs.length:=by
      rw[hxl,← Nat.succ_mul]; exact Nat.mul_le_mul_right _ hjl
     rw[List.drop_append_of_le_length (by omega),List.take_append_of_le_length (by rw[List.length_drop]; omega)]
    rw[show aN.sz (CZ z)=z from rfl,e1]; exact hx j x hj'
   ·have hj':m[j-l.length]?=some x:=by rw[← List.getElem?_append_right (l₁:=l) hjl]; exact hj
    have e1:chunk z j (xs++news)=chunk z (j-l.length) news:=by
     unfold chunk;have:j * z=xs.length+(j-l.length) * z:=by
      rw[hxl,← Nat.add_mul]; congr 1; omega
     rw[this,List.drop_append,Nat.add_sub_cancel_left,List.drop_of_length_le (Nat.le_add_right _ _),List.nil_append]
    rw[show aN.sz (CZ z)=z from rfl,e1];exact n2 _ x hj'
  ·show (if v'.ownBlock=some g then kd else _)=kd;rw[if_pos hg]
 ·show (if v'.ownBlock=some b then kd else if b<w.heap.size then χ b else 0)=χ b;rw[if_neg (fun hv=>hT (by rw[hold b hb hv]; simp)),if_pos hb]
 ·intro he;exact hT (by rw[hcol b he.symm]; simp)
 ·show (if v'.ownBlock=some b then kd else if b<w.heap.size then χ b else 0)=0;have h5:=h2.size;rw[if_neg (fun hv=>by have:=(h1.lt b hv).2; omega),if_neg (by omega)]
theorem Al {P:Program} {t e ty:TypeId} {k kd z:Nat} {χ:Col} {w:World} {v y:Value} {l m:List (List PV)} (hE:Cu P t e z) (hown:Own (α:=CZ z) k χ e w v l) (hsrc:Src χ w z y m) (hk:k≠0) (hkd:kd≠0)
  (hlen:l.length+m.length<=2147483647) (hnm:Norm χ w) :
  ∃ v' w' χ',(Builtin.append_ #[t,t] ty #[v,y]).run P w = .ok v' w'/\Own (α:=CZ z) kd χ' e w' v' (l++m)/\Chg [k] χ w χ' w'/\Norm χ' w'/\(∀ b,In χ 0 b->b<w.heap.size->In χ' 0 b/\w'.heap[b]?=w.heap[b]?):=by
 obtain⟨i,zv,hi,hz,hsize,hby,hzs⟩:=hE.ex;obtain⟨⟨xs,ho,hx⟩,hcol⟩:=hown;obtain⟨A,c,news,rfl,n1,n1c,n2,hA,n3⟩:=hsrc;have hxl:xs.length=l.length * z:=ho.1;have fin:=fun v' w' h1 h2 h3=>D7 (kd:=kd) (e:=e) (w':=w') (v':=v') (m:=m) (news:=news) hxl hx hcol n2 hk hnm h1 h2 h3;have hsz0:aN.sz (CZ z)=z:=rfl;rw[hsz0] at ho;rcases A with _ | ad
 ·have hm0:=hA rfl;subst hm0;have hn:news=[]:=List.eq_nil_of_length_eq_zero (by simpa using n1);subst hn;obtain⟨χ',f1,f2⟩:=fin v w (by rw[List.length_nil,Nat.add_zero,List.append_nil]; exact ho) (World.grownBy.refl w _) (.inl rfl);exact⟨v,w,χ',qZ w t ty e i _ hE.ty hi v _ xs ho c,f1,f2⟩
 ·obtain⟨v',w',hrun,h2,h3,h4,h5⟩:=nR (P:=P) w t ty e i zv z i.bytes hE.ty hi hz hsize rfl hzs hE.pos v l.length xs ho ad m.length c news n1 (n3 ad rfl) n1c (by simp only[maxLen]; omega)
   (Nat.le_trans (Nat.mul_le_mul hlen hby) (by omega))
  obtain⟨χ',f1,f2⟩:=fin v' w' h2 h3 h5;exact⟨v',w',χ',hrun,f1,f2⟩
section
variable {P:Program} {w0:World} {χ0:Col} {T0:Ctx} {s:St} {a:Act} {w:World} {G:Gh} {o:Oper} {Q:Exit->Act->World->Prop}
def lA (s:ByteArray):List (List PV):=s.data.toList.map fun b=>[PV.int .u8 (b.toNat:Int)]
theorem tC (s:ByteArray):(lA s).length=s.size:=by unfold lA; rw[List.length_map,Array.length_toList]; rfl
theorem CE {F:Nat->Prop} {w:World} (s:ByteArray) (i:Nat) (x:List PV) (h:(lA s)[i]?=some x):aN.rd (α:=CZ 1) F w (chunk 1 i (Lib.strCells s)) x:=by
 unfold lA at h;rw[List.getElem?_map,Option.map_eq_some_iff] at h;obtain⟨b,hb,rfl⟩:=h;obtain⟨hl,he⟩:=List.getElem?_eq_some_iff.1 hb;have hc:chunk 1 i (Lib.strCells s)=[.int .u8 b.toNat]:=by
  unfold chunk Lib.strCells;rw[Nat.mul_one,List.drop_eq_getElem_cons (by rw[List.length_map]; exact hl),List.getElem_map,he]; rfl
 rw[hc];refine⟨rfl,rfl,fun j p u hp hu=>?_⟩;cases j with
 | zero =>
  simp at hp hu;subst hp hu;have:=b.toNat_lt;exact .int (by simp [inK,IntKind.min,IntKind.max,IntKind.signed,IntKind.bits]; omega)
 | succ j=>simp at hp
theorem qn {P:Program} (w:World) (t u ty e:TypeId) (i:TypeInfo) (ht:P.underlying t=some (.slice e)) (hu:P.underlying u=some .string) (hi:P.info? e=some i) (hs1:i.size=1)
  (g off sLen sCap:Nat) (cur:Array Value) (hg:iC w g cur e) (s:ByteArray) (hroom:sLen+s.size<=sCap) (hfit:off+sLen+s.size<=cur.size) :
  (Builtin.append_ #[t,u] ty #[.slice (some ⟨g,off,none⟩) sLen sCap,.string s]).run P w =
   .ok (.slice (some ⟨g,off,none⟩) (sLen+s.size) sCap) (w.setRow g (cur.toList.take (off+sLen)++Lib.strCells s++cur.toList.drop (off+sLen+s.size)).toArray):=by
 have hf:=Lib.run_firstCells_string (P:=P) w 1 s;have hst:=iD P g (off+sLen) e (Lib.strCells s) 0 cur w hg (by simpa [Lib.strCells_length] using hfit) (Lib.strCells_oneCell s);simp only[Nat.add_zero,Lib.strCells_length] at hst;simp [Builtin.append_,run_underlying ht,run_underlying hu,sizeOf,typeInfo,hi,hs1,Builtin.lenOf,hroom,hf,fT,hst]
theorem Am {P:Program} {t u e ty:TypeId} {k kd:Nat} {χ:Col} {w:World} {v:Value} {l:List (List PV)} {s:ByteArray} (hE:Cu P t e 1) (hu:P.underlying u=some .string) (hown:Own (α:=CZ 1) k χ e w v l) (hk:k≠0)
  (hlen:l.length+s.size<=2147483647) (hnm:Norm χ w) :
  ∃ v' w' χ',(Builtin.append_ #[t,u] ty #[v,.string s]).run P w = .ok v' w'/\Own (α:=CZ 1) kd χ' e w' v' (l++lA s)/\Chg [k] χ w χ' w'/\Norm χ' w'/\(∀ b,In χ 0 b->b<w.heap.size->In χ' 0 b/\w'.heap[b]?=w.heap[b]?):=by
 obtain⟨i,zv,hi,hz,hsize,hby,hzs⟩:=hE.ex;obtain⟨⟨xs,ho,hx⟩,hcol⟩:=hown;have ht:=hE.ty;have ho:iQ w e 1 v l.length xs:=ho;have hxl:xs.length=l.length * 1:=ho.1;have hxl':xs.length=l.length:=by omega
 have fin:=fun v' w' h1 h2 h3=>D7 (kd:=kd) (e:=e) (w':=w') (v':=v') (m:=lA s) (news:=Lib.strCells s) hxl hx hcol (CE s) hk hnm h1 h2 h3;rw[tC] at fin;have h2:(l.length+s.size) * i.bytes<=140737488355328:=Nat.le_trans (Nat.mul_le_mul hlen hby) (by omega);have hl:(xs++Lib.strCells s).length=(l.length+s.size) * 1:=by rw[List.length_append,hxl,Lib.strCells_length]; omega
 have grown:∀ (old:Nat),old<l.length+s.size->∀ (row:Option Nat),
   iQ (w.drew.alloc (.cells (xs.toArray++(Lib.strCells s).toArray++Builtin.zeroCells zv.cells (grownCap w (l.length+s.size) old e-(l.length+s.size))) e)) e 1
    (.slice (some ⟨w.heap.size,0,none⟩) (l.length+s.size) (grownCap w (l.length+s.size) old e)) (l.length+s.size) (xs++Lib.strCells s) /\
   w.grownBy (w.drew.alloc (.cells (xs.toArray++(Lib.strCells s).toArray++Builtin.zeroCells zv.cells (grownCap w (l.length+s.size) old e-(l.length+s.size))) e)) row:=by
  intro old hold row;have hge:=grownCap_ge w (l.length+s.size) old e;have hcm:grownCap w (l.length+s.size) old e<=maxLen:=grownCap_le_maxLen w (l.length+s.size) old e (by simp only[maxLen]; omega);refine⟨⟨hl,.inr ⟨w.heap.size,_,_,0,rfl,Nat.zero_le _,.of (heap_alloc_new w.drew _),hge,hcm,?_,?_⟩⟩,⟨rfl,rfl,rfl,by simp,fun k hk _=>heap_alloc_old w.drew _ hk⟩⟩
  ·simp only[Array.size_append,List.size_toArray,size_zeroCells,hzs,hxl,Lib.strCells_length];omega
  ·rw[List.drop_zero];simp only[Array.toList_append,List.append_assoc];rw[← List.append_assoc,← hl];exact List.take_left
 rcases ho.2 with⟨rfl,hn0⟩ | ⟨g,cap,cur,off,rfl,hbg,hg,hnc,hcm,hcs,htake⟩
 ·have hl0:l=[]:=List.eq_nil_of_length_eq_zero hn0;subst hl0;have hx0:xs=[]:=List.eq_nil_of_length_eq_zero (by simpa using hxl);subst hx0;by_cases hm:s.size=0
  ·have hn:Lib.strCells s=[]:=List.eq_nil_of_length_eq_zero (by rw[Lib.strCells_length]; exact hm);have hf:=Lib.run_firstCells_string (P:=P) w 1 s;rw[hm] at hf;obtain⟨χ',f1,f2⟩:=fin (.slice none 0 0) w (by rw[hm,hn]; exact Ac w e 1) (World.grownBy.refl w _) (.inl rfl);exact⟨_,w,χ',by simp [Builtin.append_,run_underlying ht,run_underlying hu,sizeOf,typeInfo,hi,hsize,Builtin.lenOf,hm,hf],f1,f2⟩
  ·have hr:=run_append_nil_string (P:=P) w t u ty e i zv ht hu hi hz s (by omega) (by omega) (by simp only[List.length_nil,Nat.zero_add] at h2; omega);have hgr:=grown 0 (by simp; omega) (Value.ownBlock (.slice none 0 0));simp only[List.length_nil,Nat.zero_add,List.nil_append,Array.empty_append] at hgr;have e1:(s.data.map fun b=>Value.int .u8 b.toNat)=(Lib.strCells s).toArray:=by
    apply Array.ext';simp [Lib.strCells]
   rw[e1] at hr;obtain⟨χ',f1,f2⟩:=fin _ _ (by simpa using hgr.1) hgr.2 (.inr rfl);exact⟨_,_,χ',hr,f1,f2⟩
 ·by_cases hroom:l.length+s.size<=cap
  ·have hr:=qn (P:=P) w t u ty e i ht hu hi hsize g off l.length cap cur hg s hroom (by omega);have hfits:(cur.toList.take (off+l.length)++Lib.strCells s++cur.toList.drop (off+l.length+s.size)).length=cur.size:=by
    simp only[List.length_append,List.length_take,List.length_drop,Array.length_toList,Lib.strCells_length];omega
   have h1:iQ (w.setRow g (cur.toList.take (off+l.length)++Lib.strCells s++cur.toList.drop (off+l.length+s.size)).toArray) e 1 (.slice (some ⟨g,off,none⟩) (l.length+s.size) cap) (l.length+s.size) (xs++Lib.strCells s):=by
    refine⟨hl,.inr ⟨g,cap,_,off,rfl,hbg,hg.set _ (by rw[List.size_toArray]; exact hfits),hroom,hcm,by rw[List.size_toArray,hfits]; exact hcs,?_⟩⟩;show (List.drop off (cur.toList.take (off+l.length)++Lib.strCells s++cur.toList.drop (off+l.length+s.size))).take ((l.length+s.size) * 1)=xs++Lib.strCells s;have h3:(cur.toList.drop off).take l.length=xs:=by simpa using htake
    have h4:off<=(cur.toList.take (off+l.length)).length:=by
     have:=Array.length_toList (xs:=cur);rw[List.length_take];omega
    rw[List.append_assoc,List.drop_append_of_le_length h4,List.drop_take,Nat.add_sub_cancel_left,h3,← List.append_assoc,← hl];exact List.take_left
   obtain⟨χ',f1,f2⟩:=fin _ _ h1 ⟨rfl,rfl,rfl,by simp,fun k _ hk=>setRow_other w g k _ (fun e=>hk (by simp [Value.ownBlock,e]))⟩ (.inl rfl);exact⟨_,_,χ',hr,f1,f2⟩
  ·have holds:∀ j u,xs[j]?=some u->w.cell? ((⟨g,off,none⟩:Addr).add j)=some u:=ho.cells (g:=g) rfl;have hr:=Lib.run_append_grow_string (P:=P) w t u ty e i zv ht hu hi hz ⟨g,off,none⟩ l.length cap xs (by rw[hsize]; exact hxl) holds s (by omega) (by omega) (growslice_fits (by omega) h2);have hgr:=grown cap (by omega) (Value.ownBlock (.slice (some ⟨g,off,none⟩) l.length cap));obtain⟨χ',f1,f2⟩:=fin _ _ hgr.1 hgr.2 (.inr rfl);exact⟨_,_,χ',hr,f1,f2⟩
theorem Kn {k z:Nat} {χ:Col} {e:TypeId} {w:World} {v:Value} {l:List (List PV)} (hown:Own (α:=CZ z) k χ e w v l) (hz:∀ x∈l,x.length=z):Src χ w z v l:=by
 obtain⟨⟨xs,ho,hrd⟩,hcol⟩:=hown;rcases ho.2 with⟨hv,hn⟩ | ⟨g,cap,cur,off,hv,hb,hgg,hc,hm,hr⟩
 ·have:l=[]:=List.eq_nil_of_length_eq_zero hn;subst this;exact⟨none,0,[],hv,by simp,by simp,fun i x (hx:none=some x)=>(by cases hx),fun _=>rfl,by simp⟩
 ·refine⟨_,cap,xs,hv,ho.1,fun u hu=>?_,hrd,fun h=>(by cases h),fun ad had j u hu=>?_⟩
  ·obtain⟨j,hj⟩:=List.mem_iff_getElem?.1 hu;have hjl:j<l.length * z:=by rw[← show xs.length=l.length * z from ho.1]; exact (List.getElem?_eq_some_iff.1 hj).1
   have hzp:0<z:=by
    rcases Nat.eq_zero_or_pos z with h | h
    ·subst h; simp at hjl
    ·exact h
   have hi:j / z<l.length:=(Nat.div_lt_iff_lt_mul hzp).2 hjl;have hone:=aN.one (hrd (j / z) _ (List.getElem?_eq_getElem hi)) u;refine hone ?_;refine List.mem_of_getElem? (i:=j % z) ?_;show (chunk z (j / z) xs)[j % z]?=some u;unfold chunk;rw[List.getElem?_take,if_pos (Nat.mod_lt _ hzp),List.getElem?_drop,Nat.mul_comm,Nat.div_add_mod];exact hj
  ·injection had with had
   subst had;have h9:=ho.cells (g:=g) (by rw[hv]; rfl) j u hu;rw[show mu v=off by rw[hv]; rfl] at h9;exact h9
theorem Ht {F:Nat->Prop} {z:Nat} {v:Value} {m:List (List PV)} {χ:Col} (h:Rd F w (.sl m) v) (hF:∀ b,F b->χ b=0) (hz:∀ x∈m,x.length=z):Src χ w z v m:=by
 obtain⟨B,c,z',hv,hs,hz'⟩:=h.tA;have hs:=hs.mono (F':=In χ 0) fun b hb _=>hF b hb;obtain⟨news,n1,n2,n3,n4⟩:=hs.row;by_cases h0:m=[]
 ·subst h0;have hn:news=[]:=List.eq_nil_of_length_eq_zero (by simpa using n1);subst hn;exact⟨B,c,[],hv,by simp,by simp,fun i x (hx:none=some x)=>(by cases hx),fun _=>rfl,by simp⟩
 ·obtain⟨y,hy⟩:∃ y,m[0]?=some y:=⟨_,List.getElem?_eq_getElem (List.length_pos_iff.2 h0)⟩;have hzz:z'=z:=by rw[← hz' 0 y hy]; exact hz y (List.mem_of_getElem? hy)
  subst hzz;obtain⟨b,off,hB,hcells⟩:=n4 (List.length_pos_iff.2 h0);refine⟨B,c,news,hv,n1,n2,n3,fun hB'=>(by rw[hB] at hB'; cases hB'),fun ad had j u hu=>?_⟩;rw[hB] at had;injection had with had
  subst had;rw[fT]; exact hcells j u hu
theorem my {A:Arg} {x:Operand} {m:List (List PV)} {z:Nat} (r:cI w0 χ0 T0 s a w G) (h:s.arg x=A) (hl:jC A=some m) (hz:∀ x∈m,x.length=z):Src G.χ w z (a.eval x) m:=by
 have hx:=r.ev x;unfold jC at hl;split at hl
 ·rw[(St.cE h).1] at hx;simp only[Option.some.injEq] at hl;subst hl;obtain⟨B,c,z',hv,hs,hz'⟩:=(xa hx).tA;obtain⟨news,n1,n2,n3,n4⟩:=hs.row;rename_i l _;by_cases h0:l=[]
  ·subst h0;have hn:news=[]:=List.eq_nil_of_length_eq_zero (by simpa using n1);subst hn;exact⟨B,c,[],hv,by simp,by simp,fun i x (hx:none=some x)=>(by cases hx),fun _=>rfl,by simp⟩
  ·obtain⟨y,hy⟩:∃ y,l[0]?=some y:=⟨_,List.getElem?_eq_getElem (List.length_pos_iff.2 h0)⟩;have hzz:z'=z:=by rw[← hz' 0 y hy]; exact hz y (List.mem_of_getElem? hy)
   subst hzz;obtain⟨b,off,hB,hcells⟩:=n4 (List.length_pos_iff.2 h0);refine⟨B,c,news,hv,n1,n2,n3,fun hB'=>(by rw[hB] at hB'; cases hB'),fun ad had j u hu=>?_⟩;rw[hB] at had;injection had with had
   subst had;rw[fT]; exact hcells j u hu
 ·rw[(St.cE h).1] at hx;simp only[Option.some.injEq] at hl;subst hl;exact⟨none,0,[],k9 hx,by simp,by simp,fun i x (hx:none=some x)=>(by cases hx),fun _=>rfl,by simp⟩
 ·rw[(St.cE h).1] at hx;simp only[Option.some.injEq] at hl;subst hl;exact Ht (LRd.val hx).1 (fun _ h=>h) hz
 ·rename_i ob e z' l';obtain⟨h1,h2⟩:=St.cE h;rw[h1] at hx;simp only[Option.some.injEq] at hl;subst hl;have hob:s.hp ob=some (.arr e z' l'):=by simpa [Slot.ids,Cmp.ids,Cmp.leaves,aJ.ids] using h2
  have hval:a.eval x=G.hv ob:=LRd.val hx;obtain⟨⟨⟨xs,ho,hrd⟩,hcol⟩,hbl⟩:=r.iA ob _ hob;have hz':∀ x∈l',x.length=z':=fun x hx=>by
   obtain⟨i,hi⟩:=List.mem_iff_getElem?.1 hx;have:=hrd i x hi;exact this.2.1.trans this.1
  have key:∀ z'',(l'=[]\/z''=z')->Src G.χ w z'' (G.hv ob) l':=by
   intro z'' hzz;rcases ho.2 with⟨hv,hn⟩ | ⟨g,cap,cur,off,hv,hb,hgg,hc,hm,hr⟩
   ·have:l'=[]:=List.eq_nil_of_length_eq_zero hn;subst this;exact⟨none,0,[],hv,by simp,by simp,fun i x (hx:none=some x)=>(by cases hx),fun _=>rfl,by simp⟩
   ·rcases hzz with h0 | rfl
    ·subst h0;exact⟨_,cap,[],hv,by simp,by simp,fun i x (hx:none=some x)=>(by cases hx),fun _=>rfl,by simp⟩
    ·refine⟨_,cap,xs,hv,ho.1,fun u hu=>?_,hrd,fun h=>(by cases h),fun ad had j u hu=>?_⟩
     ·obtain⟨j,hj⟩:=List.mem_iff_getElem?.1 hu;have hjl:j<l'.length * z'':=by rw[← show xs.length=l'.length * z'' from ho.1]; exact (List.getElem?_eq_some_iff.1 hj).1
      have hzp:0<z'':=by
       rcases Nat.eq_zero_or_pos z'' with h | h
       ·subst h; simp at hjl
       ·exact h
      have hi:j / z''<l'.length:=(Nat.div_lt_iff_lt_mul hzp).2 hjl;have hone:=aN.one (hrd (j / z'') _ (List.getElem?_eq_getElem hi)) u;refine hone ?_;refine List.mem_of_getElem? (i:=j % z'') ?_;show (chunk z'' (j / z'') xs)[j % z'']?=some u;unfold chunk;rw[List.getElem?_take,if_pos (Nat.mod_lt _ hzp),List.getElem?_drop,Nat.mul_comm,Nat.div_add_mod];exact hj
     ·injection had with had
      subst had;have h9:=ho.cells (g:=g) (by rw[hv]; rfl) j u hu;rw[show mu (G.hv ob)=off by rw[hv]; rfl] at h9;exact h9
  rw[hval];refine key z ?_;by_cases h0:l'=[]
  ·exact .inl h0
  ·obtain⟨y,hy⟩:=List.exists_mem_of_ne_nil l' h0;exact .inr ((hz y hy).symm.trans (hz' y hy))
 ·rename_i ob a' b' z2 e z' l';obtain⟨h1,h2⟩:=St.cE h;rw[h1] at hx;split at hl
  ·rename_i hzb;obtain⟨rfl,hbl⟩:=hzb;simp only[Option.some.injEq] at hl;subst hl;have hob:s.hp ob=some (.arr e z2 l'):=by simpa [Slot.ids,Cmp.ids,Cmp.leaves,aJ.ids] using h2
   obtain⟨A,m,c,hv0,hab,hbm,hmc,hval⟩:=LRd.val hx;obtain⟨hown,_⟩:=r.iA ob _ hob;have hrows:∀ x∈l',x.length=z2:=fun x hx=>by
    obtain⟨⟨xs,_,hrd⟩,_⟩:=hown;obtain⟨i,hi⟩:=List.mem_iff_getElem?.1 hx;have:=hrd i x hi;exact this.2.1.trans this.1
   obtain⟨B,c',hv,hc,hm⟩:=hown.form;rw[hv0] at hv;injection hv with hA hm' hc'
   subst hA hm' hc';have hwhole:=Kn hown hrows;rw[hv0] at hwhole;rw[hval];have hsub:=hwhole.sub hab (by omega) hmc;by_cases h0:(l'.take b').drop a'=[]
   ·rw[h0];obtain⟨A2,c2,n2,q1,q2,q3,q4,q5,q6⟩:=hsub;rw[h0] at q1;exact⟨A2,c2,[],q1,by simp,by simp,fun i x (hx:none=some x)=>(by cases hx),fun _=>rfl,by simp⟩
   ·obtain⟨y,hy⟩:=List.exists_mem_of_ne_nil _ h0;have:z=z2:=(hz y hy).symm.trans (hrows y (List.mem_of_mem_take (List.mem_of_mem_drop hy)));rw[this]; exact hsub
  ·cases hl
 ·cases hl
theorem sD {t u el:TypeId} {z ob d:Nat} {l m:List (List PV)} {x y:Operand} {c:Prop} {c':Call} {wr:List (Nat×df)} (r:cI w0 χ0 T0 s a w G) (hd:∀ k,o.dst=some k->k<a.tmps.size) (ho:o.op = .call c') (hc':c' = { callee := .builtin .append,args := #[x,y],argTypes := #[t,u] })
  (hf0:s.hp d=none/\d<1000000) (hr:∃ v' w' χ',(Builtin.append_ #[t,u] o.type #[a.eval x,a.eval y]).run P w = .ok v' w'/\Own (α:=CZ z) (d+2) χ' el w' v' (l++m)/\Chg [ob+2] G.χ w χ' w'/\Norm χ' w'/\(∀ b,In G.χ 0 b->b<w.heap.size->In χ' 0 b/\w'.heap[b]?=w.heap[b]?))
  (hwr:(wr=[(ob,.gone),(d,.arr el z (l++m))])\/(wr=[(d,.arr el z (l++m))]/\s.hp ob=none)) :
  o.wp P a w (bG w0 χ0 T0 a.tmps.size (s.app o.dst ⟨c,.x (.own d),wr⟩)) Q:=by
 have hf:=hf0.1;have hlt:=hf0.2;obtain⟨v',w',χ',hrun,h1,h2,h3,h4⟩:=hr;subst hc';have hrun':(execOp a.eval o).run P w = .ok (.value v') w':=by
  simp only[execOp,ho,resolve,invoke,builtin,Sem.run_bind,Sem.run_pure,Result.andThen_ok,List.map_toArray,List.map_cons,List.map_nil,hrun]
 unfold Oper.wp;rw[hrun']
 let bd:=(v'.ownBlock).getD 0
 let G':Gh:={ χ:=χ',bl:=Lad.upd G.bl d bd,hv:=Lad.upd G.hv d v' }
 have hext:Ext G s.hp w G' (eM s.hp wr) w':=by
  refine⟨h4,fun i hi=>fZ _ _ (fun e=>hi.elim (fun hi=>hi (by rw[e]; exact hf)) fun hi=>by omega),fun i hi=>fZ _ _ (fun e=>hi.elim (fun hi=>hi (by rw[e]; exact hf)) fun hi=>by omega),fun i hi=>?_⟩;have hid:i≠d:=fun e=>hi (by rw[e]; exact hf);rcases hwr with rfl | ⟨rfl,_⟩
  ·show Lad.upd (Lad.upd s.hp ob _) d _ i≠none;rw[fZ _ _ hid];by_cases hio:i=ob
   ·rw[hio,bP]; simp
   ·rw[fZ _ _ hio]; exact hi
  ·show Lad.upd s.hp d _ i≠none;rw[fZ _ _ hid]; exact hi
 have hnew:(eM s.hp wr) d=some (.arr el z (l++m)):=by
  rcases hwr with rfl | ⟨rfl,_⟩ <;> exact bP _ _ _
 have hone:v'.oneCell'=true:=by
  obtain⟨B,cc,hv,_⟩:=h1.form;rw[hv]; rfl
 refine⟨Act.ji _ _ _,G',r.upd hd hext (T:=[ob+2]) h2 (by simp) h3 (fun i h hi=>?_) ⟨hone,fun j hj=>?_,?_⟩⟩
 ·by_cases hid:i=d
  ·subst hid;rw[show (⟨c,Slot.x (aJ.own i),wr⟩:Eff).wr=wr from rfl,hnew] at hi;injection hi with hi
   subst hi;refine .inr ⟨?_,fun b hb=>?_⟩
   ·show Own (α:=CZ z) (i+2) χ' el w' (Lad.upd G.hv i v' i) (l++m);rw[bP]; exact h1
   ·change (Lad.upd G.hv i v' i).ownBlock=some b at hb;rw[bP] at hb;show b=Lad.upd G.bl i bd i;rw[bP];show b=(v'.ownBlock).getD 0;rw[hb]; rfl
  ·rcases hwr with rfl | ⟨rfl,hob⟩
   ·change Lad.upd (Lad.upd s.hp ob _) d _ i=some h at hi;rw[fZ _ _ hid] at hi;by_cases hio:i=ob
    ·subst hio;rw[bP] at hi;injection hi with hi
     subst hi;exact .inr trivial
    ·rw[fZ _ _ hio] at hi;exact .inl ⟨hi,by simp; omega⟩
   ·change Lad.upd s.hp d _ i=some h at hi;rw[fZ _ _ hid] at hi;refine .inl ⟨hi,?_⟩;have:i≠ob:=fun e=>by rw[e,hob] at hi; cases hi
    simp; omega
 ·simp [aJ.ids] at hj;subst hj;rw[show (⟨c,Slot.x (aJ.own j),wr⟩:Eff).wr=wr from rfl,hnew]; simp
 ·exact (bP G.hv d v').symm
theorem Ao {t el:TypeId} {z ob d:Nat} {l m:List (List PV)} {x y:Operand} {c:Prop} {c':Call} {wr:List (Nat×df)} (r:cI w0 χ0 T0 s a w G) (hd:∀ k,o.dst=some k->k<a.tmps.size) (ho:o.op = .call c') (hc':c' = { callee := .builtin .append,args := #[x,y],argTypes := #[t,t] })
  (hel:dy P t=some (el,z)) (hf0:s.hp d=none/\d<1000000) (hown:Own (α:=CZ z) (ob+2) G.χ el w (a.eval x) l) (hsrc:Src G.χ w z (a.eval y) m) (hlen:l.length+m.length<=2147483647)
  (hwr:(wr=[(ob,.gone),(d,.arr el z (l++m))])\/(wr=[(d,.arr el z (l++m))]/\s.hp ob=none)) :
  o.wp P a w (bG w0 χ0 T0 a.tmps.size (s.app o.dst ⟨c,.x (.own d),wr⟩)) Q :=
 sD r hd ho hc' hf0 (Al (kd:=d+2) (ty:=o.type) (eV hel) hown hsrc (by omega) (by omega) hlen r.norm) hwr
theorem Ap {e:Eff} {t:TypeId} {x y:Operand} {c:Call} (r:cI w0 χ0 T0 s a w G) (hd:∀ k,o.dst=some k->k<a.tmps.size) (ho:o.op = .call c) (hcc:c = { callee := .builtin .append,args := #[x,y],argTypes := #[t,t] })
  (h:gM P t o.dst (aY s.hp o.dst) [s.arg x,s.arg y]=some e) (hc:e.cond):o.wp P a w (bG w0 χ0 T0 a.tmps.size (s.app o.dst e)) Q:=by
 have hx:=r.ev x;cases hdst:o.dst with
 | none=>unfold gM at h; split at h <;> (try split at h) <;> simp_all
 | some d =>
 rw[hdst] at h;have hfr:aY s.hp (some d)=true->s.hp d=none/\d<1000000:=fun h=>by simpa [aY] using h
 rw[← hdst];unfold gM at h;split at h
 ·rename_i ob el z l y' heq;simp only[List.cons.injEq,and_true] at heq;obtain⟨h1,h2⟩:=St.cE heq.1;rw[h1] at hx;have hob:s.hp ob=some (.arr el z l):=by simpa [Slot.ids,Cmp.ids,Cmp.leaves,aJ.ids] using h2
  have hval:a.eval x=G.hv ob:=LRd.val hx;split at h
  ·rename_i e' z' m d' hel hm hdd;injection hdd with hdd
   subst hdd;split at h
   ·rename_i hcond;obtain⟨rfl,rfl,hfree⟩:=hcond;simp only[Option.some.injEq] at h;subst h;obtain⟨c1,c2⟩:=hc;exact Ao r hd ho hcc hel (hfr hfree) (by rw[hval]; exact (r.iA ob _ hob).1) (my r heq.2 hm c2) c1 (.inl rfl)
   ·cases h
  ·cases h
 ·rename_i y' heq;simp only[List.cons.injEq,and_true] at heq;rw[(St.cE heq.1).1] at hx;split at h
  ·rename_i e' z' m d' hel hm hdd;injection hdd with hdd
   subst hdd;split at h
   ·rename_i hfree;simp only[Option.some.injEq] at h;subst h;obtain⟨c1,c2⟩:=hc;have:=Ao (l:=[]) (m:=m) (ob:=d) (c:=m.length<=2147483647/\∀ x∈m,x.length=z') (Q:=Q) r hd ho hcc hel (hfr hfree) (by rw[k9 hx]; exact Own.nil _ _ _ _) (my r heq.2 hm c2) (by simpa using c1) (.inr ⟨rfl,(hfr hfree).1⟩);exact this
   ·cases h
  ·cases h
 ·cases h
end
end Go.Lad
