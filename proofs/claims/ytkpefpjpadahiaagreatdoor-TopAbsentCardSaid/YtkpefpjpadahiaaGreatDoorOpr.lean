import Derived.Test.YtkpefpjpadahiaaGreatDoorD12
import Derived.Test.YtkpefpjpadahiaaGreatDoorRows
set_option linter.unusedVariables false
set_option linter.unusedSimpArgs false
set_option linter.unusedSectionVars false
namespace Go.Lad
open Go.RowKit Go.ChangeShapes Go.WideShapes Go.Deep
def TD (t:Ty):Type:=t.den
theorem tz (t:Ty):0<t.cells:=by induction t <;> simp [Ty.cells] <;> omega
instance (t:Ty):aN (TD t) where
 sz:=t.cells
 rd F w cs x:=RdL F w (enc t x) cs
 len h:=by rw[← h.1]; exact kO t _
 one h:=h.one
 frame hf h:=h.frame hf
instance (t:Ty):Enc (TD t) where
 enc x:=enc t x
 rd _ h:=h
 pos:=tz t
section
variable {P:Program}
theorem wX {T:TypeId} {k:IntKind} (ht:P.underlying T=some (.int k)):jZ P T (TD (.int k)):=by
 intro H en w base sp held fuel cs y h;obtain⟨n,rfl,_,hw⟩:=DataW.trod_int ht h;refine⟨(n:Int),.za (.int ?_)⟩;simp only[Lit.wf,Bool.and_eq_true,decide_eq_true_eq] at hw;exact hw
theorem tY {T:TypeId} (ht:P.underlying T=some .bool):jZ P T (TD .bool):=by
 intro H en w base sp held fuel cs y h;obtain⟨x,hx⟩:=C5 ht H en w base sp held fuel cs y h;have hx:cs=[.bool x]:=hx;subst hx;exact⟨x,.za .bool⟩
theorem wY {T:TypeId} (ht:P.underlying T=some .string):jZ P T (TD .str):=by
 intro H en w base sp held fuel cs y h;obtain⟨s,rfl,_,hw⟩:=DataW.trod_string ht h;refine⟨bs s,.za ?_⟩;rw[OR];exact .str (by simpa [maxLen] using hw)
theorem yF {T e:TypeId} {te:Ty} (ht:P.underlying T=some (.slice e)) (hC:P.cellsOf e=te.cells) (ho:jZ P e (TD te)):jZ P T (TD (.sl te)):=by
 intro H en w base sp held fuel cs y h;obtain⟨l,hl⟩:=AR (α:=TD te) ht hC (tz te) ho H en w base sp held fuel cs y h;have:=qo.rd (α:=List (TD te)) (F:=Old w) (fun b hb=>hb) hl;exact⟨l,this⟩
def uI (P:Program) (off:Nat) (fs:List Field) (t:Ty):Prop :=
 ∀ (H:Type) (en:TypeId×Value->H) (w:World) (base:Nat) (sp:Nat->Bool) (held:Bool) (fuel:Nat) (cs:List Value),
  cs.length=off+t.cells->(∀ f∈fs,∃ y,DataW.trod en P w base sp held fuel f.type ((cs.drop f.offset).take (P.cellsOf f.type))=some y)->∃ x:t.den,RdL (Old w) w (enc t x) (cs.drop off)
theorem Cs {off:Nat} {f:Field} {t:Ty} (ho:f.offset=off) (hC:P.cellsOf f.type=t.cells) (ha:jZ P f.type (TD t)):uI P off [f] t:=by
 intro H en w base sp held fuel cs hl hf;obtain⟨y,hy⟩:=hf f (by simp);obtain⟨x,hx⟩:=ha H en w base sp held fuel _ y hy;rw[ho,hC] at hx;have e:(cs.drop off).take t.cells=cs.drop off:=List.take_of_length_le (by rw[List.length_drop]; omega);rw[e] at hx;exact⟨x,hx⟩
theorem z8 {off:Nat} {f g:Field} {fs:List Field} {a b:Ty} (ho:f.offset=off) (hC:P.cellsOf f.type=a.cells) (ha:jZ P f.type (TD a)) (hb:uI P (off+a.cells) (g::fs) b):uI P off (f::g::fs) (.pair a b):=by
 intro H en w base sp held fuel cs hl hf;obtain⟨y,hy⟩:=hf f (by simp);obtain⟨x,hx⟩:=ha H en w base sp held fuel _ y hy;obtain⟨z,hz⟩:=hb H en w base sp held fuel cs (by rw[hl]; show off+(a.cells+b.cells)=_; omega) (fun q hq=>hf q (List.mem_cons_of_mem _ hq));rw[ho,hC] at hx;have hx:RdL (Old w) w (enc a x) ((cs.drop off).take a.cells):=hx;refine⟨(x,z),?_⟩;have e:cs.drop off=(cs.drop off).take a.cells++cs.drop (off+a.cells):=by
  rw[← List.drop_drop,List.take_append_drop]
 show RdL (Old w) w (enc a x++enc b z) (cs.drop off);rw[e];exact hx.app hz
theorem qj {T:TypeId} (h:(∃ t,t ≠ .any/\ox t=true/\jZ P T (TD t))\/∃ e,P.underlying T=some (.slice e)):jZ P T (TD .any):=by
 intro H en w base sp held fuel cs y hy;have key:∃ v,cs=[v]/\v.oneCell'=true:=by
  rcases h with⟨t,_,hl,ho⟩ | ⟨e,he⟩
  ·obtain⟨x,hx⟩:=ho H en w base sp held fuel cs y hy;have hx:RdL (Old w) w (enc t x) cs:=hx;obtain⟨p,hp,_⟩:=px hl x;rw[hp] at hx;cases cs with
   | nil=>cases hx.1
   | cons v l=>cases l with
    | nil=>exact⟨v,rfl,(hx.2 0 p v rfl rfl).one⟩
    | cons _ _=>have:=hx.1; simp at this
  ·rcases open_slice he hy with⟨rfl,_⟩ | ⟨a,len,cap,m,n,D,Pl,rfl,_⟩
   ·exact⟨_,rfl,rfl⟩
   ·exact⟨_,rfl,rfl⟩
 obtain⟨v,rfl,hv⟩:=key;exact⟨(v:Value),.za (.oth hv)⟩
def opF (P:Program) (op:TypeId->Ty->Bool):Nat->List Field->Ty->Bool
 | off,[f],t=>Nat.beq f.offset off && Nat.beq (P.cellsOf f.type) t.cells && op f.type t
 | off,f::g::fs,.pair a b=>Nat.beq f.offset off && Nat.beq (P.cellsOf f.type) a.cells && op f.type a && opF P op (off+a.cells) (g::fs) b
 | _,_,_=>false
def Ha (P:Program):Nat->TypeId->Ty->Bool
 | 0,_,_=>false
 | n+1,T,t=>match P.underlying T,t with
  | some (.int _),.any=>true
  | some .bool,.any=>true
  | some .string,.any=>true
  | some (.slice _),.any=>true
  | some (.int k),.int k'=>k == k'
  | some .bool,.bool=>true
  | some .string,.str=>true
  | some (.slice e),.sl te=>Nat.beq (P.cellsOf e) te.cells && Ha P n e te
  | some (.struct fs),t=>Nat.beq (P.cellsOf T) t.cells && opF P (Ha P n) 0 fs.toList t
  | _,_=>false
theorem Kd {op:TypeId->Ty->Bool} (hop:∀ T t,op T t=true->jZ P T (TD t)):∀ (fs:List Field) (off:Nat) (t:Ty),opF P op off fs t=true->uI P off fs t
 | [],off,t,h=>by unfold opF at h; cases h
 | [f],off,t,h=>by
  unfold opF at h;simp only[Bool.and_eq_true,eU,decide_eq_true_eq] at h;exact Cs h.1.1 h.1.2 (hop _ _ h.2)
 | f::g::fs,off,.pair a b,h=>by
  unfold opF at h;simp only[Bool.and_eq_true,eU,decide_eq_true_eq] at h;exact z8 h.1.1.1 h.1.1.2 (hop _ _ h.1.2) (Kd hop (g::fs) _ b h.2)
 | f::g::fs,off,.int k,h=>by unfold opF at h; cases h
 | f::g::fs,off,.any,h=>by unfold opF at h; cases h
 | f::g::fs,off,.bool,h=>by unfold opF at h; cases h
 | f::g::fs,off,.str,h=>by unfold opF at h; cases h
 | f::g::fs,off,.sl e,h=>by unfold opF at h; cases h
theorem so:∀ (n:Nat) (T:TypeId) (t:Ty),Ha P n T t=true->jZ P T (TD t)
 | 0,T,t,h=>by cases h
 | n+1,T,t,h=>by
  unfold Ha at h;split at h
  ·rename_i k hu; exact qj (.inl ⟨_,by simp,rfl,wX hu⟩)
  ·rename_i hu; exact qj (.inl ⟨_,by simp,rfl,tY hu⟩)
  ·rename_i hu; exact qj (.inl ⟨_,by simp,rfl,wY hu⟩)
  ·rename_i e hu; exact qj (.inr ⟨_,hu⟩)
  ·rename_i k k' hu;rw[beq_iff_eq] at h;subst h;exact wX hu
  ·rename_i hu; exact tY hu
  ·rename_i hu; exact wY hu
  ·rename_i e te hu;rw[Bool.and_eq_true,eU,decide_eq_true_eq] at h;exact yF hu h.1 (so n e te h.2)
  ·rename_i t x1 x2 fs hu;rw[Bool.and_eq_true,eU,decide_eq_true_eq] at h;have hF:=Kd (so n) fs.toList 0 t h.2;intro H en w base sp held fuel cs y hy;obtain⟨xs,m,_,_,hlen,hxl,hg⟩:=DataW.trod_struct hu hy;have:=hF H en w base sp held m cs (by rw[hlen,h.1,Nat.zero_add]) (fun f hfm=>by
    obtain⟨i,hi⟩:=List.mem_iff_getElem?.1 hfm;have h1:=hg i f (by simpa using hi);have hil:i<fs.toList.length:=(List.getElem?_eq_some_iff.1 hi).1;have hil':i<xs.length:=by rw[hxl]; simpa using hil
    rw[List.getElem?_eq_getElem hil'] at h1;exact⟨_,h1⟩)
   obtain⟨x,hx⟩:=this;rw[List.drop_zero] at hx;exact⟨x,hx⟩
  ·cases h
theorem MI {e:Ty} {w:World} {x:TD (.sl e)} {A:Option Addr} {n c:Nat} (h:aN.rd (Old w) w (Value.slice A n c).cells.toList x):SRd ⟨fun _=>0,fun _=>0,fun _=>undef⟩ (hpL []) w (.c (.v (.p (.sl (List.map (enc e) x))))) (.slice A n c):=by
 have h:RdL (Old w) w [.sl (List.map (enc e) x)] [Value.slice A n c]:=h;exact MN (h.2 0 _ _ rfl rfl)
theorem Ke {t:Ty} {w:World} {x:TD t} {cs:Array Value} (h:aN.rd (Old w) w (Value.agg cs).cells.toList x):SRd ⟨fun _=>0,fun _=>0,fun _=>undef⟩ (hpL []) w (.c (.g ((dR t x).map TL.un))) (.agg cs):=by
 have h:RdL (Old w) w (enc t x) cs.toList:=h;have e:List.map TL.un (dR t x)=(enc t x).map .p:=jx t x;have:=ON h;rw[← e] at this;exact this
end
end Go.Lad
namespace Go.Proofs.YtkpefpjpadahiaaGreatDoor.bulks
open Go.Lad Go.RowKit Go.ChangeShapes Go.WideShapes Go.Deep
theorem one_le {H:Type} (d:DataW H):1<=Rows.uptoBulk d:=by
 cases d with
 | lit l=>cases l <;> simp [Rows.uptoBulk]
 | nil=>simp [Rows.uptoBulk]
 | ptr d=>simp [Rows.uptoBulk]
 | slice elems spare=>simp [Rows.uptoBulk]
 | agg parts=>simp [Rows.uptoBulk]
 | iface t d=>simp [Rows.uptoBulk]
 | map entries=>simp [Rows.uptoBulk]
 | held h=>simp [Rows.uptoBulk]
theorem length_le {H:Type} (l:List (DataW H)):l.length<=Rows.uptoBulkAll l:=by
 induction l with
 | nil=>simp [Rows.uptoBulkAll]
 | cons x r ih=>have:=one_le x; simp only[Rows.uptoBulkAll,List.length_cons]; omega
end Go.Proofs.YtkpefpjpadahiaaGreatDoor.bulks
namespace Go.Lad
open Go.RowKit Go.ChangeShapes Go.WideShapes Go.Deep
section
variable {P:Program} {H:Type} {en:TypeId×Value->H} {w:World} {base:Nat} {sp:Nat->Bool} {held:Bool}
theorem Kf {T e:TypeId} {α:Type} [aN α] {fuel:Nat} {cs:List Value} {y:DataW H×List MemPlace} (ht:P.underlying T=some (.slice e)) (hC:P.cellsOf e=aN.sz α) (hpos:0<aN.sz α)
  (h:DataW.trod en P w base sp held fuel T cs=some y) (ho:∀ n,fuel=n+1->∀ cs y,DataW.trod en P w base sp held n e cs=some y->∃ x:α,aN.rd (Old w) w cs x):∃ l:List α,aN.rd (Old w) w cs l:=by
 rcases DataW.trod_slice ht h with⟨rfl,_⟩ | ⟨a,len,cap,elems,rest,n,hn0,rfl,_,hb,hl,hm,hlen0,hel,_,_⟩
 ·exact⟨[],none,0,0,rfl,Sl.empty _ _⟩
 ·have hex:∀ i:Fin len,∃ x:α,∃ cs',w.cells? base (a.add (i.1 * P.cellsOf e)) (P.cellsOf e)=some cs'/\aN.rd (Old w) w cs' x:=by
   intro i;have h1:=hel i.1 i.2;rw[List.getElem?_eq_getElem (by omega)] at h1;obtain⟨cs',h2,h3⟩:=Option.bind_eq_some_iff.1 h1;obtain⟨x,hx'⟩:=ho n hn0 cs' _ h3;exact⟨x,cs',h2,hx'⟩
  refine⟨List.ofFn fun i=>Classical.choose (hex i),some a,len,cap,rfl,by simp,hl,by simpa [maxLen] using hm,by simp,fun hn=>?_⟩;have hspot:a.spot=none:=by
   obtain⟨x,cs',h1,_⟩:=hex ⟨0,hn⟩;obtain⟨_,hlen,hat⟩:=World.cells?_some h1;have h0:=hat 0 (by rw[hC]; exact hpos);have e0:(a.add (0 * P.cellsOf e)).add 0=a:=by simp [Addr.add]
   rw[e0] at h0;rw[List.getElem?_eq_getElem (by rw[hlen,hC]; exact hpos)] at h0;exact World.cell?_spot h0
  obtain⟨b,off,spot⟩:=a;subst hspot;refine⟨b,off,rfl,fun i x hi=>?_⟩;have hil:i<len:=by simpa using (List.getElem?_eq_some_iff.1 hi).1
  rw[List.getElem?_ofFn,dif_pos hil] at hi;injection hi with hi
  obtain⟨cs',h1,h2⟩:=Classical.choose_spec (hex ⟨i,hil⟩);rw[hi] at h2;refine⟨cs',h2,fun j u hu=>?_⟩;obtain⟨_,hlen,hat⟩:=World.cells?_some h1;have hj:j<cs'.length:=(List.getElem?_eq_some_iff.1 hu).1;have h3:=hat j (by rw[← hlen]; exact hj);rw[fT,fT,hC,hu] at h3;exact⟨qY h3,h3⟩
end
section
variable {P:Program}
def pH (P:Program) (m:Nat) (T:TypeId) (t:Ty):Prop :=
 ∀ (H:Type) (en:TypeId×Value->H) (w:World) (base:Nat) (sp:Nat->Bool) (held:Bool) (cs:List Value) (y:DataW H×List MemPlace),DataW.trod en P w base sp held m T cs=some y->∃ x:t.den,RdL (Old w) w (enc t x) cs
def sq (P:Program) (m off:Nat) (fs:List Field) (t:Ty):Prop :=
 ∀ (H:Type) (en:TypeId×Value->H) (w:World) (base:Nat) (sp:Nat->Bool) (held:Bool) (cs:List Value),
  cs.length=off+t.cells->(∀ f∈fs,∃ y,DataW.trod en P w base sp held m f.type ((cs.drop f.offset).take (P.cellsOf f.type))=some y)->∃ x:t.den,RdL (Old w) w (enc t x) (cs.drop off)
theorem Aa {m off:Nat} {f:Field} {t:Ty} (ho:f.offset=off) (hC:P.cellsOf f.type=t.cells) (ha:pH P m f.type t):sq P m off [f] t:=by
 intro H en w base sp held cs hl hf;obtain⟨y,hy⟩:=hf f (by simp);obtain⟨x,hx⟩:=ha H en w base sp held _ y hy;rw[ho,hC] at hx;have e:(cs.drop off).take t.cells=cs.drop off:=List.take_of_length_le (by rw[List.length_drop]; omega);rw[e] at hx;exact⟨x,hx⟩
theorem xt {m off:Nat} {f g:Field} {fs:List Field} {a b:Ty} (ho:f.offset=off) (hC:P.cellsOf f.type=a.cells) (ha:pH P m f.type a) (hb:sq P m (off+a.cells) (g::fs) b):sq P m off (f::g::fs) (.pair a b):=by
 intro H en w base sp held cs hl hf;obtain⟨y,hy⟩:=hf f (by simp);obtain⟨x,hx⟩:=ha H en w base sp held _ y hy;obtain⟨z,hz⟩:=hb H en w base sp held cs (by rw[hl]; show off+(a.cells+b.cells)=_; omega) (fun q hq=>hf q (List.mem_cons_of_mem _ hq));rw[ho,hC] at hx;refine⟨(x,z),?_⟩;have e:cs.drop off=(cs.drop off).take a.cells++cs.drop (off+a.cells):=by
  rw[← List.drop_drop,List.take_append_drop]
 show RdL (Old w) w (enc a x++enc b z) (cs.drop off);rw[e];exact hx.app hz
theorem Fu {m:Nat} {op:TypeId->Ty->Bool} (hop:∀ T t,op T t=true->pH P m T t):∀ (fs:List Field) (off:Nat) (t:Ty),opF P op off fs t=true->sq P m off fs t
 | [],off,t,h=>by unfold opF at h; cases h
 | [f],off,t,h=>by
  unfold opF at h;simp only[Bool.and_eq_true,eU,decide_eq_true_eq] at h;exact Aa h.1.1 h.1.2 (hop _ _ h.2)
 | f::g::fs,off,.pair a b,h=>by
  unfold opF at h;simp only[Bool.and_eq_true,eU,decide_eq_true_eq] at h;exact xt h.1.1.1 h.1.1.2 (hop _ _ h.1.2) (Fu hop (g::fs) _ b h.2)
 | f::g::fs,off,.int k,h=>by unfold opF at h; cases h
 | f::g::fs,off,.any,h=>by unfold opF at h; cases h
 | f::g::fs,off,.bool,h=>by unfold opF at h; cases h
 | f::g::fs,off,.str,h=>by unfold opF at h; cases h
 | f::g::fs,off,.sl e,h=>by unfold opF at h; cases h
 | f::g::fs,off,.slu e,h=>by unfold opF at h; cases h
theorem Ct {m:Nat} {op:TypeId->Ty->Bool} {T:TypeId} {t:Ty} {fs:Array Field} (hu:P.underlying T=some (.struct fs)) (hC:P.cellsOf T=t.cells) (hop:∀ k,m=k+1->∀ T t,op T t=true->pH P k T t) (h:opF P op 0 fs.toList t=true):pH P m T t:=by
 intro H en w base sp held cs y hy;obtain⟨xs,k,hk,_,hlen,hxl,hg⟩:=DataW.trod_struct hu hy;have:=Fu (hop k hk) fs.toList 0 t h H en w base sp held cs (by rw[hlen,hC,Nat.zero_add]) (fun f hfm=>by
  obtain⟨i,hi⟩:=List.mem_iff_getElem?.1 hfm;have h1:=hg i f (by simpa using hi);have hil:i<fs.toList.length:=(List.getElem?_eq_some_iff.1 hi).1;have hil':i<xs.length:=by rw[hxl]; simpa using hil
  rw[List.getElem?_eq_getElem hil'] at h1;exact⟨_,h1⟩)
 obtain⟨x,hx⟩:=this;rw[List.drop_zero] at hx;exact⟨x,hx⟩
def opR (P:Program) (i:Nat) (T0:TypeId):Nat->TypeId->Ty->Bool
 | 0,_,_=>false
 | n+1,T,t=>match t with
  | .slu j=>Nat.beq j i && Nat.beq T T0
  | t=>match P.underlying T with
   | some (.struct fs)=>Nat.beq (P.cellsOf T) t.cells && opF P (opR P i T0 n) 0 fs.toList t
   | _=>Ha P (n+1) T t
theorem Kg {i:Nat} {T0:TypeId}:∀ (n m:Nat),(∀ m',m'<=m->pH P m' T0 (.slu i))->∀ T t,opR P i T0 n T t=true->pH P m T t
 | 0,m,hrec,T,t,h=>by cases h
 | n+1,m,hrec,T,t,h=>by
  unfold opR at h;split at h
  ·rename_i j;rw[Bool.and_eq_true,eU,eU,decide_eq_true_eq,decide_eq_true_eq] at h;obtain⟨rfl,rfl⟩:=h;exact hrec m (Nat.le_refl _)
  ·split at h
   ·rename_i fs hu;rw[Bool.and_eq_true,eU,decide_eq_true_eq] at h;exact Ct hu h.1 (fun k hk=>Kg n k fun m' hm'=>hrec m' (by omega)) h.2
   ·intro H en w base sp held cs y hy;exact so (n+1) T t h H en w base sp held m cs y hy
theorem Hb {i n:Nat} {T0 e:TypeId} (hu:P.underlying T0=some (.slice e)) (hC:P.cellsOf e=(iz i).cells) (hop:opR P i T0 n e (iz i)=true):∀ m,pH P m T0 (.slu i):=by
 intro m;induction m using Nat.strongRecOn with
 | ind m ih =>
  intro H en w base sp held cs y hy;obtain⟨l,hl⟩:=Kf (α:=TD (iz i)) hu hC (tz _) hy fun k hk cs y h=>Kg n k (fun m' hm'=>ih m' (by omega)) e (iz i) hop H en w base sp held cs y h;have h2:aN.rd (α:=TD (.sl (iz i))) (Old w) w cs l:=qo.rd (α:=List (TD (iz i))) (F:=Old w) (fun b hb=>hb) hl;have h2:RdL (Old w) w (enc (.sl (iz i)) l) cs:=h2;refine⟨List.map (Umk i) l,?_⟩;exact (congrArg (fun z=>RdL (Old w) w z cs) (En i l)).mpr h2
def Fv (P:Program):Nat->TypeId->Ty->Bool
 | 0,_,_=>false
 | n+1,T,t=>match P.underlying T,t with
  | some (.slice e),.slu i=>Nat.beq (P.cellsOf e) (iz i).cells && opR P i T n e (iz i)
  | some (.slice e),.sl te=>Nat.beq (P.cellsOf e) te.cells && Fv P n e te
  | some (.struct fs),t=>Nat.beq (P.cellsOf T) t.cells && opF P (Fv P n) 0 fs.toList t
  | _,t=>Ha P (n+1) T t
theorem qk:∀ (n:Nat) (T:TypeId) (t:Ty),Fv P n T t=true->jZ P T (TD t)
 | 0,T,t,h=>by cases h
 | n+1,T,t,h=>by
  unfold Fv at h;split at h
  ·rename_i e i hu;rw[Bool.and_eq_true,eU,decide_eq_true_eq] at h;intro H en w base sp held fuel cs y hy;exact Hb hu h.1 h.2 fuel H en w base sp held cs y hy
  ·rename_i e te hu;rw[Bool.and_eq_true,eU,decide_eq_true_eq] at h;exact yF hu h.1 (qk n e te h.2)
  ·rename_i t x1 fs hu;rw[Bool.and_eq_true,eU,decide_eq_true_eq] at h;intro H en w base sp held fuel cs y hy;exact Ct (m:=fuel) hu h.1 (fun k hk T t ht H en w base sp held cs y hy=>qk n T t ht H en w base sp held k cs y hy) h.2 H en w base sp held cs y hy
  ·exact so (n+1) T _ h
end
end Go.Lad
