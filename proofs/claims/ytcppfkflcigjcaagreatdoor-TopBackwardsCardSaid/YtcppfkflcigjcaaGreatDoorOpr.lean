import Derived.Test.YtcppfkflcigjcaaGreatDoorFJ
import Derived.Test.YtcppfkflcigjcaaGreatDoorRows
set_option linter.unusedVariables false
set_option linter.unusedSimpArgs false
set_option linter.unusedSectionVars false
namespace Go.Lad
open Go.RowKit Go.ChangeShapes Go.WideShapes Go.Deep
def TD (t:Ty):Type:=t.den
theorem vP (t:Ty):0<t.cells:=by induction t <;> simp [Ty.cells] <;> omega
instance (t:Ty):aA (TD t) where
 sz:=t.cells
 rd F w cs x:=RdL F w (enc t x) cs
 len h:=by rw[← h.1]; exact k6 t _
 one h:=h.one
 frame hf h:=h.frame hf
instance (t:Ty):Enc (TD t) where
 enc x:=enc t x
 rd _ h:=h
 pos:=vP t
section
variable {P:Program}
theorem y8 {T:TypeId} {k:IntKind} (ht:P.underlying T=some (.int k)):lr P T (TD (.int k)):=by
 intro H en w base sp held fuel cs y h;obtain⟨n,rfl,_,hw⟩:=DataW.trod_int ht h;refine⟨(n:Int),.Bp (.int ?_)⟩;simp only[Lit.wf,Bool.and_eq_true,decide_eq_true_eq] at hw;exact hw
theorem wm {T:TypeId} (ht:P.underlying T=some .bool):lr P T (TD .bool):=by
 intro H en w base sp held fuel cs y h;obtain⟨x,hx⟩:=EW ht H en w base sp held fuel cs y h;have hx:cs=[.bool x]:=hx;subst hx;exact⟨x,.Bp .bool⟩
theorem y9 {T:TypeId} (ht:P.underlying T=some .string):lr P T (TD .str):=by
 intro H en w base sp held fuel cs y h;obtain⟨s,rfl,_,hw⟩:=DataW.trod_string ht h;refine⟨bs s,.Bp ?_⟩;rw[QL];exact .str (by simpa [maxLen] using hw)
theorem AT {T e:TypeId} {te:Ty} (ht:P.underlying T=some (.slice e)) (hC:P.cellsOf e=te.cells) (ho:lr P e (TD te)):lr P T (TD (.sl te)):=by
 intro H en w base sp held fuel cs y h;obtain⟨l,hl⟩:=CQ (α:=TD te) ht hC (vP te) ho H en w base sp held fuel cs y h;have:=sW.rd (α:=List (TD te)) (F:=Old w) (fun b hb=>hb) hl;exact⟨l,this⟩
def wS (P:Program) (off:Nat) (fs:List Field) (t:Ty):Prop :=
 ∀ (H:Type) (en:TypeId×Value->H) (w:World) (base:Nat) (sp:Nat->Bool) (held:Bool) (fuel:Nat) (cs:List Value),
  cs.length=off+t.cells->(∀ f∈fs,∃ y,DataW.trod en P w base sp held fuel f.type ((cs.drop f.offset).take (P.cellsOf f.type))=some y)->∃ x:t.den,RdL (Old w) w (enc t x) (cs.drop off)
theorem Eg {off:Nat} {f:Field} {t:Ty} (ho:f.offset=off) (hC:P.cellsOf f.type=t.cells) (ha:lr P f.type (TD t)):wS P off [f] t:=by
 intro H en w base sp held fuel cs hl hf;obtain⟨y,hy⟩:=hf f (by simp);obtain⟨x,hx⟩:=ha H en w base sp held fuel _ y hy;rw[ho,hC] at hx;have e:(cs.drop off).take t.cells=cs.drop off:=List.take_of_length_le (by rw[List.length_drop]; omega);rw[e] at hx;exact⟨x,hx⟩
theorem B5 {off:Nat} {f g:Field} {fs:List Field} {a b:Ty} (ho:f.offset=off) (hC:P.cellsOf f.type=a.cells) (ha:lr P f.type (TD a)) (hb:wS P (off+a.cells) (g::fs) b):wS P off (f::g::fs) (.pair a b):=by
 intro H en w base sp held fuel cs hl hf;obtain⟨y,hy⟩:=hf f (by simp);obtain⟨x,hx⟩:=ha H en w base sp held fuel _ y hy;obtain⟨z,hz⟩:=hb H en w base sp held fuel cs (by rw[hl]; show off+(a.cells+b.cells)=_; omega) (fun q hq=>hf q (List.mem_cons_of_mem _ hq));rw[ho,hC] at hx;have hx:RdL (Old w) w (enc a x) ((cs.drop off).take a.cells):=hx;refine⟨(x,z),?_⟩;have e:cs.drop off=(cs.drop off).take a.cells++cs.drop (off+a.cells):=by
  rw[← List.drop_drop,List.take_append_drop]
 show RdL (Old w) w (enc a x++enc b z) (cs.drop off);rw[e];exact hx.app hz
theorem sQ {T:TypeId} (h:(∃ t,t ≠ .any/\qL t=true/\lr P T (TD t))\/∃ e,P.underlying T=some (.slice e)):lr P T (TD .any):=by
 intro H en w base sp held fuel cs y hy;have key:∃ v,cs=[v]/\v.oneCell'=true:=by
  rcases h with⟨t,_,hl,ho⟩ | ⟨e,he⟩
  ·obtain⟨x,hx⟩:=ho H en w base sp held fuel cs y hy;have hx:RdL (Old w) w (enc t x) cs:=hx;obtain⟨p,hp,_⟩:=rU hl x;rw[hp] at hx;cases cs with
   | nil=>cases hx.1
   | cons v l=>cases l with
    | nil=>exact⟨v,rfl,(hx.2 0 p v rfl rfl).one⟩
    | cons _ _=>have:=hx.1; simp at this
  ·rcases open_slice he hy with⟨rfl,_⟩ | ⟨a,len,cap,m,n,D,Pl,rfl,_⟩
   ·exact⟨_,rfl,rfl⟩
   ·exact⟨_,rfl,rfl⟩
 obtain⟨v,rfl,hv⟩:=key;exact⟨(v:Value),.Bp (.oth hv)⟩
def opF (P:Program) (op:TypeId->Ty->Bool):Nat->List Field->Ty->Bool
 | off,[f],t=>Nat.beq f.offset off && Nat.beq (P.cellsOf f.type) t.cells && op f.type t
 | off,f::g::fs,.pair a b=>Nat.beq f.offset off && Nat.beq (P.cellsOf f.type) a.cells && op f.type a && opF P op (off+a.cells) (g::fs) b
 | _,_,_=>false
def I6 (P:Program):Nat->TypeId->Ty->Bool
 | 0,_,_=>false
 | n+1,T,t=>match P.underlying T,t with
  | some (.int _),.any=>true
  | some .bool,.any=>true
  | some .string,.any=>true
  | some (.slice _),.any=>true
  | some (.int k),.int k'=>k == k'
  | some .bool,.bool=>true
  | some .string,.str=>true
  | some (.slice e),.sl te=>Nat.beq (P.cellsOf e) te.cells && I6 P n e te
  | some (.struct fs),t=>Nat.beq (P.cellsOf T) t.cells && opF P (I6 P n) 0 fs.toList t
  | _,_=>false
theorem Mt {op:TypeId->Ty->Bool} (hop:∀ T t,op T t=true->lr P T (TD t)):∀ (fs:List Field) (off:Nat) (t:Ty),opF P op off fs t=true->wS P off fs t
 | [],off,t,h=>by unfold opF at h; cases h
 | [f],off,t,h=>by
  unfold opF at h;simp only[Bool.and_eq_true,eE,decide_eq_true_eq] at h;exact Eg h.1.1 h.1.2 (hop _ _ h.2)
 | f::g::fs,off,.pair a b,h=>by
  unfold opF at h;simp only[Bool.and_eq_true,eE,decide_eq_true_eq] at h;exact B5 h.1.1.1 h.1.1.2 (hop _ _ h.1.2) (Mt hop (g::fs) _ b h.2)
 | f::g::fs,off,.int k,h=>by unfold opF at h; cases h
 | f::g::fs,off,.any,h=>by unfold opF at h; cases h
 | f::g::fs,off,.bool,h=>by unfold opF at h; cases h
 | f::g::fs,off,.str,h=>by unfold opF at h; cases h
 | f::g::fs,off,.sl e,h=>by unfold opF at h; cases h
theorem uP:∀ (n:Nat) (T:TypeId) (t:Ty),I6 P n T t=true->lr P T (TD t)
 | 0,T,t,h=>by cases h
 | n+1,T,t,h=>by
  unfold I6 at h;split at h
  ·rename_i k hu; exact sQ (.inl ⟨_,by simp,rfl,y8 hu⟩)
  ·rename_i hu; exact sQ (.inl ⟨_,by simp,rfl,wm hu⟩)
  ·rename_i hu; exact sQ (.inl ⟨_,by simp,rfl,y9 hu⟩)
  ·rename_i e hu; exact sQ (.inr ⟨_,hu⟩)
  ·rename_i k k' hu;rw[beq_iff_eq] at h;subst h;exact y8 hu
  ·rename_i hu; exact wm hu
  ·rename_i hu; exact y9 hu
  ·rename_i e te hu;rw[Bool.and_eq_true,eE,decide_eq_true_eq] at h;exact AT hu h.1 (uP n e te h.2)
  ·rename_i t x1 x2 fs hu;rw[Bool.and_eq_true,eE,decide_eq_true_eq] at h;have hF:=Mt (uP n) fs.toList 0 t h.2;intro H en w base sp held fuel cs y hy;obtain⟨xs,m,_,_,hlen,hxl,hg⟩:=DataW.trod_struct hu hy;have:=hF H en w base sp held m cs (by rw[hlen,h.1,Nat.zero_add]) (fun f hfm=>by
    obtain⟨i,hi⟩:=List.mem_iff_getElem?.1 hfm;have h1:=hg i f (by simpa using hi);have hil:i<fs.toList.length:=(List.getElem?_eq_some_iff.1 hi).1;have hil':i<xs.length:=by rw[hxl]; simpa using hil
    rw[List.getElem?_eq_getElem hil'] at h1;exact⟨_,h1⟩)
   obtain⟨x,hx⟩:=this;rw[List.drop_zero] at hx;exact⟨x,hx⟩
  ·cases h
theorem OK {e:Ty} {w:World} {x:TD (.sl e)} {A:Option Addr} {n c:Nat} (h:aA.rd (Old w) w (Value.slice A n c).cells.toList x):SRd ⟨fun _=>0,fun _=>0,fun _=>undef⟩ (hpL []) w (.c (.v (.p (.sl (List.map (enc e) x))))) (.slice A n c):=by
 have h:RdL (Old w) w [.sl (List.map (enc e) x)] [Value.slice A n c]:=h;exact OS (h.2 0 _ _ rfl rfl)
theorem Mu {t:Ty} {w:World} {x:TD t} {cs:Array Value} (h:aA.rd (Old w) w (Value.agg cs).cells.toList x):SRd ⟨fun _=>0,fun _=>0,fun _=>undef⟩ (hpL []) w (.c (.g ((dF t x).map TL.un))) (.agg cs):=by
 have h:RdL (Old w) w (enc t x) cs.toList:=h;have e:List.map TL.un (dF t x)=(enc t x).map .p:=jJ t x;have:=QH h;rw[← e] at this;exact this
end
end Go.Lad
namespace Go.Proofs.YtcppfkflcigjcaaGreatDoor.bulks
open Go.Lad Go.RowKit Go.ChangeShapes Go.WideShapes Go.Deep
theorem one_le {H:Type} (d:DataW H):1<=Rows.uptoBulk d:=by
 cases d with
 | lit l=>cases l <;> simp [Rows.uptoBulk]
 | nil=>simp [Rows.uptoBulk]
 | ptr d=>simp [Rows.uptoBulk]
 | slice elems spare=>simp [Rows.uptoBulk]
 | agg parts=>simp [Rows.uptoBulk]
 | iface t d=>simp [Rows.uptoBulk]
 | map entries=>simp [Rows.uptoBulk]
 | held h=>simp [Rows.uptoBulk]
theorem length_le {H:Type} (l:List (DataW H)):l.length<=Rows.uptoBulkAll l:=by
 induction l with
 | nil=>simp [Rows.uptoBulkAll]
 | cons x r ih=>have:=one_le x; simp only[Rows.uptoBulkAll,List.length_cons]; omega
end Go.Proofs.YtcppfkflcigjcaaGreatDoor.bulks
namespace Go.Lad
open Go.RowKit Go.ChangeShapes Go.WideShapes Go.Deep
section
variable {P:Program} {H:Type} {en:TypeId×Value->H} {w:World} {base:Nat} {sp:Nat->Bool} {held:Bool}
theorem Mv {T e:TypeId} {α:Type} [aA α] {fuel:Nat} {cs:List Value} {y:DataW H×List MemPlace} (ht:P.underlying T=some (.slice e)) (hC:P.cellsOf e=aA.sz α) (hpos:0<aA.sz α)
  (h:DataW.trod en P w base sp held fuel T cs=some y) (ho:∀ n,fuel=n+1->∀ cs y,DataW.trod en P w base sp held n e cs=some y->∃ x:α,aA.rd (Old w) w cs x):∃ l:List α,aA.rd (Old w) w cs l:=by
 rcases DataW.trod_slice ht h with⟨rfl,_⟩ | ⟨a,len,cap,elems,rest,n,hn0,rfl,_,hb,hl,hm,hlen0,hel,_,_⟩
 ·exact⟨[],none,0,0,rfl,Sl.empty _ _⟩
 ·have hex:∀ i:Fin len,∃ x:α,∃ cs',w.cells? base (a.add (i.1 * P.cellsOf e)) (P.cellsOf e)=some cs'/\aA.rd (Old w) w cs' x:=by
   intro i;have h1:=hel i.1 i.2;rw[List.getElem?_eq_getElem (by omega)] at h1;obtain⟨cs',h2,h3⟩:=Option.bind_eq_some_iff.1 h1;obtain⟨x,hx'⟩:=ho n hn0 cs' _ h3;exact⟨x,cs',h2,hx'⟩
  refine⟨List.ofFn fun i=>Classical.choose (hex i),some a,len,cap,rfl,by simp,hl,by simpa [maxLen] using hm,by simp,fun hn=>?_⟩;have hspot:a.spot=none:=by
   obtain⟨x,cs',h1,_⟩:=hex ⟨0,hn⟩;obtain⟨_,hlen,hat⟩:=World.cells?_some h1;have h0:=hat 0 (by rw[hC]; exact hpos);have e0:(a.add (0 * P.cellsOf e)).add 0=a:=by simp [Addr.add]
   rw[e0] at h0;rw[List.getElem?_eq_getElem (by rw[hlen,hC]; exact hpos)] at h0;exact World.cell?_spot h0
  obtain⟨b,off,spot⟩:=a;subst hspot;refine⟨b,off,rfl,fun i x hi=>?_⟩;have hil:i<len:=by simpa using (List.getElem?_eq_some_iff.1 hi).1
  rw[List.getElem?_ofFn,dif_pos hil] at hi;injection hi with hi
  obtain⟨cs',h1,h2⟩:=Classical.choose_spec (hex ⟨i,hil⟩);rw[hi] at h2;refine⟨cs',h2,fun j u hu=>?_⟩;obtain⟨_,hlen,hat⟩:=World.cells?_some h1;have hj:j<cs'.length:=(List.getElem?_eq_some_iff.1 hu).1;have h3:=hat j (by rw[← hlen]; exact hj);rw[fY,fY,hC,hu] at h3;exact⟨tI h3,h3⟩
end
section
variable {P:Program}
def sd (P:Program) (m:Nat) (T:TypeId) (t:Ty):Prop :=
 ∀ (H:Type) (en:TypeId×Value->H) (w:World) (base:Nat) (sp:Nat->Bool) (held:Bool) (cs:List Value) (y:DataW H×List MemPlace),DataW.trod en P w base sp held m T cs=some y->∃ x:t.den,RdL (Old w) w (enc t x) cs
def uQ (P:Program) (m off:Nat) (fs:List Field) (t:Ty):Prop :=
 ∀ (H:Type) (en:TypeId×Value->H) (w:World) (base:Nat) (sp:Nat->Bool) (held:Bool) (cs:List Value),
  cs.length=off+t.cells->(∀ f∈fs,∃ y,DataW.trod en P w base sp held m f.type ((cs.drop f.offset).take (P.cellsOf f.type))=some y)->∃ x:t.den,RdL (Old w) w (enc t x) (cs.drop off)
theorem B6 {m off:Nat} {f:Field} {t:Ty} (ho:f.offset=off) (hC:P.cellsOf f.type=t.cells) (ha:sd P m f.type t):uQ P m off [f] t:=by
 intro H en w base sp held cs hl hf;obtain⟨y,hy⟩:=hf f (by simp);obtain⟨x,hx⟩:=ha H en w base sp held _ y hy;rw[ho,hC] at hx;have e:(cs.drop off).take t.cells=cs.drop off:=List.take_of_length_le (by rw[List.length_drop]; omega);rw[e] at hx;exact⟨x,hx⟩
theorem zu {m off:Nat} {f g:Field} {fs:List Field} {a b:Ty} (ho:f.offset=off) (hC:P.cellsOf f.type=a.cells) (ha:sd P m f.type a) (hb:uQ P m (off+a.cells) (g::fs) b):uQ P m off (f::g::fs) (.pair a b):=by
 intro H en w base sp held cs hl hf;obtain⟨y,hy⟩:=hf f (by simp);obtain⟨x,hx⟩:=ha H en w base sp held _ y hy;obtain⟨z,hz⟩:=hb H en w base sp held cs (by rw[hl]; show off+(a.cells+b.cells)=_; omega) (fun q hq=>hf q (List.mem_cons_of_mem _ hq));rw[ho,hC] at hx;refine⟨(x,z),?_⟩;have e:cs.drop off=(cs.drop off).take a.cells++cs.drop (off+a.cells):=by
  rw[← List.drop_drop,List.take_append_drop]
 show RdL (Old w) w (enc a x++enc b z) (cs.drop off);rw[e];exact hx.app hz
theorem Hj {m:Nat} {op:TypeId->Ty->Bool} (hop:∀ T t,op T t=true->sd P m T t):∀ (fs:List Field) (off:Nat) (t:Ty),opF P op off fs t=true->uQ P m off fs t
 | [],off,t,h=>by unfold opF at h; cases h
 | [f],off,t,h=>by
  unfold opF at h;simp only[Bool.and_eq_true,eE,decide_eq_true_eq] at h;exact B6 h.1.1 h.1.2 (hop _ _ h.2)
 | f::g::fs,off,.pair a b,h=>by
  unfold opF at h;simp only[Bool.and_eq_true,eE,decide_eq_true_eq] at h;exact zu h.1.1.1 h.1.1.2 (hop _ _ h.1.2) (Hj hop (g::fs) _ b h.2)
 | f::g::fs,off,.int k,h=>by unfold opF at h; cases h
 | f::g::fs,off,.any,h=>by unfold opF at h; cases h
 | f::g::fs,off,.bool,h=>by unfold opF at h; cases h
 | f::g::fs,off,.str,h=>by unfold opF at h; cases h
 | f::g::fs,off,.sl e,h=>by unfold opF at h; cases h
 | f::g::fs,off,.slu e,h=>by unfold opF at h; cases h
theorem Eh {m:Nat} {op:TypeId->Ty->Bool} {T:TypeId} {t:Ty} {fs:Array Field} (hu:P.underlying T=some (.struct fs)) (hC:P.cellsOf T=t.cells) (hop:∀ k,m=k+1->∀ T t,op T t=true->sd P k T t) (h:opF P op 0 fs.toList t=true):sd P m T t:=by
 intro H en w base sp held cs y hy;obtain⟨xs,k,hk,_,hlen,hxl,hg⟩:=DataW.trod_struct hu hy;have:=Hj (hop k hk) fs.toList 0 t h H en w base sp held cs (by rw[hlen,hC,Nat.zero_add]) (fun f hfm=>by
  obtain⟨i,hi⟩:=List.mem_iff_getElem?.1 hfm;have h1:=hg i f (by simpa using hi);have hil:i<fs.toList.length:=(List.getElem?_eq_some_iff.1 hi).1;have hil':i<xs.length:=by rw[hxl]; simpa using hil
  rw[List.getElem?_eq_getElem hil'] at h1;exact⟨_,h1⟩)
 obtain⟨x,hx⟩:=this;rw[List.drop_zero] at hx;exact⟨x,hx⟩
def opR (P:Program) (i:Nat) (T0:TypeId):Nat->TypeId->Ty->Bool
 | 0,_,_=>false
 | n+1,T,t=>match t with
  | .slu j=>Nat.beq j i && Nat.beq T T0
  | t=>match P.underlying T with
   | some (.struct fs)=>Nat.beq (P.cellsOf T) t.cells && opF P (opR P i T0 n) 0 fs.toList t
   | _=>I6 P (n+1) T t
theorem Mw {i:Nat} {T0:TypeId}:∀ (n m:Nat),(∀ m',m'<=m->sd P m' T0 (.slu i))->∀ T t,opR P i T0 n T t=true->sd P m T t
 | 0,m,hrec,T,t,h=>by cases h
 | n+1,m,hrec,T,t,h=>by
  unfold opR at h;split at h
  ·rename_i j;rw[Bool.and_eq_true,eE,eE,decide_eq_true_eq,decide_eq_true_eq] at h;obtain⟨rfl,rfl⟩:=h;exact hrec m (Nat.le_refl _)
  ·split at h
   ·rename_i fs hu;rw[Bool.and_eq_true,eE,decide_eq_true_eq] at h;exact Eh hu h.1 (fun k hk=>Mw n k fun m' hm'=>hrec m' (by omega)) h.2
   ·intro H en w base sp held cs y hy;exact uP (n+1) T t h H en w base sp held m cs y hy
theorem I7 {i n:Nat} {T0 e:TypeId} (hu:P.underlying T0=some (.slice e)) (hC:P.cellsOf e=(jI i).cells) (hop:opR P i T0 n e (jI i)=true):∀ m,sd P m T0 (.slu i):=by
 intro m;induction m using Nat.strongRecOn with
 | ind m ih =>
  intro H en w base sp held cs y hy;obtain⟨l,hl⟩:=Mv (α:=TD (jI i)) hu hC (vP _) hy fun k hk cs y h=>Mw n k (fun m' hm'=>ih m' (by omega)) e (jI i) hop H en w base sp held cs y h;have h2:aA.rd (α:=TD (.sl (jI i))) (Old w) w cs l:=sW.rd (α:=List (TD (jI i))) (F:=Old w) (fun b hb=>hb) hl;have h2:RdL (Old w) w (enc (.sl (jI i)) l) cs:=h2;refine⟨List.map (Umk i) l,?_⟩;exact (congrArg (fun z=>RdL (Old w) w z cs) (Gg i l)).mpr h2
def Hk (P:Program):Nat->TypeId->Ty->Bool
 | 0,_,_=>false
 | n+1,T,t=>match P.underlying T,t with
  | some (.slice e),.slu i=>Nat.beq (P.cellsOf e) (jI i).cells && opR P i T n e (jI i)
  | some (.slice e),.sl te=>Nat.beq (P.cellsOf e) te.cells && Hk P n e te
  | some (.struct fs),t=>Nat.beq (P.cellsOf T) t.cells && opF P (Hk P n) 0 fs.toList t
  | _,t=>I6 P (n+1) T t
theorem sR:∀ (n:Nat) (T:TypeId) (t:Ty),Hk P n T t=true->lr P T (TD t)
 | 0,T,t,h=>by cases h
 | n+1,T,t,h=>by
  unfold Hk at h;split at h
  ·rename_i e i hu;rw[Bool.and_eq_true,eE,decide_eq_true_eq] at h;intro H en w base sp held fuel cs y hy;exact I7 hu h.1 h.2 fuel H en w base sp held cs y hy
  ·rename_i e te hu;rw[Bool.and_eq_true,eE,decide_eq_true_eq] at h;exact AT hu h.1 (sR n e te h.2)
  ·rename_i t x1 fs hu;rw[Bool.and_eq_true,eE,decide_eq_true_eq] at h;intro H en w base sp held fuel cs y hy;exact Eh (m:=fuel) hu h.1 (fun k hk T t ht H en w base sp held cs y hy=>sR n T t ht H en w base sp held k cs y hy) h.2 H en w base sp held cs y hy
  ·exact uP (n+1) T _ h
end
end Go.Lad
